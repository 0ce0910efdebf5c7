/- Generated walks: four laws on shares. -/
import Derived.Test.YtidedcbaahiplaaP3
import Derived.Test.YtidedcbaahiplaaEngP
import Derived.KernelRfl
namespace Go.Proofs.Ytidedcbaahiplaa
open Go Go.E Go.RowKit
noncomputable def law4_SharesOneForgedIsSeen (a0 : List UInt8) (a1 : Int) (a2 : Int) (a3 : List UInt8) (a4 : Int) (a5 : Int) (a6 : UInt8) : Option (Bool) :=
  Option.bind (shares_Split a0 a1 a2 a3) (fun x1 => if !true then if true then if x1.2.1 = (0 : Int) then some (true) else some (decide ((x1.1.length : Int) = (0 : Int))) else some (false) else if x1.2.1 = (0 : Int) then Go.L.chk (Go.L.I64 ((x1.1.length : Int) - (1 : Int))) (if (0 : Int) ≤ a4 ∧ a4 ≤ ((x1.1.length : Int) - (1 : Int)) then Go.L.chk (Go.L.I64 ((a0.length : Int) - (1 : Int))) (if (bif (bif !decide ((0 : Int) ≤ a5 ∧ a5 ≤ ((a0.length : Int) - (1 : Int))) then true else decide ((a6.toNat : Int) = 0)) then true else decide (a2 = a1)) then (if true then if x1.2.1 = (0 : Int) then some (true) else some (decide ((x1.1.length : Int) = (0 : Int))) else some (false)) else (if (x1.1.length : Int) = a2 then Go.L.chk (0 ≤ a4 ∧ a4 < (x1.1.length : Int)) (if (((x1.1.getD a4.toNat default).2).length : Int) = (a0.length : Int) then Go.L.chk (0 ≤ a4 ∧ a4 < (x1.1.length : Int)) (Go.L.chk (0 ≤ a4 ∧ a4 < (x1.1.length : Int)) (Go.L.chk (0 ≤ a5 ∧ a5 < (((x1.1.getD a4.toNat default).2).length : Int)) (Go.L.chk (0 ≤ a5 ∧ a5 < (((x1.1.getD a4.toNat default).2).length : Int)) (if ((M.jnF (x1.1.set a4.toNat ((x1.1.getD a4.toNat default).1, ((x1.1.getD a4.toNat default).2.set a5.toNat (((x1.1.getD a4.toNat default).2).getD a5.toNat default ^^^ a6)))) a1)).1 = (19 : Int) then Go.L.chk (Go.L.I64 (a2 - (1 : Int))) (if a1 ≤ (((M.jnF (x1.1.set a4.toNat ((x1.1.getD a4.toNat default).1, ((x1.1.getD a4.toNat default).2.set a5.toNat (((x1.1.getD a4.toNat default).2).getD a5.toNat default ^^^ a6)))) a1)).2) ∧ (((M.jnF (x1.1.set a4.toNat ((x1.1.getD a4.toNat default).1, ((x1.1.getD a4.toNat default).2.set a5.toNat (((x1.1.getD a4.toNat default).2).getD a5.toNat default ^^^ a6)))) a1)).2) ≤ (a2 - (1 : Int)) then some (decide (((M.jn (x1.1.set a4.toNat ((x1.1.getD a4.toNat default).1, ((x1.1.getD a4.toNat default).2.set a5.toNat (((x1.1.getD a4.toNat default).2).getD a5.toNat default ^^^ a6)))) a1).length : Int) = (0 : Int))) else some (false)) else some (false))))) else some (false)) else some (false))) else if true then if x1.2.1 = (0 : Int) then some (true) else some (decide ((x1.1.length : Int) = (0 : Int))) else some (false)) else if true then if x1.2.1 = (0 : Int) then some (true) else some (decide ((x1.1.length : Int) = (0 : Int))) else some (false))

set_option maxRecDepth 10000 in
theorem law4_SharesOneForgedIsSeen_ok (w : World) (H : PH) (hH : Le H (hp w)) {a0 : List UInt8} {a1 : Int} {a2 : Int} {a3 : List UInt8} {a4 : Int} {a5 : Int} {a6 : UInt8} {v0_0 : Value} {v3_0 : Value} (h0_0 : Vec .byte H v0_0 (a0)) (h3_0 : Vec .byte H v3_0 (a3)) {r : Bool} (h : law4_SharesOneForgedIsSeen a0 a1 a2 a3 a4 a5 a6 = some r) :
    Ok Try.prog 6 [v0_0, .int .i64 a1, .int .i64 a2, v3_0, .int .i64 a4, .int .i64 a5, .int .u8 (a6.toNat : Int)] w (fun v w' => Ext w w' ∧ v = .bool r) := by
  refine Ok_enter (n := 124) [(0, v0_0), (1, .int .i64 a1), (2, .int .i64 a2), (3, v3_0), (4, .int .i64 a4), (5, .int .i64 a5), (6, .int .u8 (a6.toNat : Int))] Try.func6 rfl rfl rfl rfl rfl ?_
  have hL := Lcl.start w
  refine W_seqr ?_
  refine S_pu 1 rfl ?_
  refine S_seqnil ?_
  refine W_seqr ?_
  refine S_pu 4 rfl ?_
  obtain ⟨x1, hb1, h⟩ := Go.L.bind_some h
  refine S_callL rfl rfl hL (shares_Split_ok _ _ (gz_le hH hL) (h0_0.mono (gz_left hH)) (h3_0.mono (gz_left hH)) hb1) ?_
  rintro _ w2 ⟨u2, vs2, rfl, hn2, hN2⟩ hx2 hL2 hle2
  obtain ⟨hL2', hle2'⟩ := nest_take hL hN2
  refine S_pu 3 rfl ?_
  refine S_alloc zr25 rfl rfl hL2' ?_
  intro w3 b3 hL3 hle3 _
  refine S_pu 1 rfl ?_
  refine S_storeBN 0 rfl rfl rfl zr25 hL3 rfl rfl (onc rfl (onc rfl on0)) ?_
  intro w4 hL4 hle4
  refine S_seqnil ?_
  refine W_seq ?_
  refine W_seqr ?_
  refine S_callL rfl rfl hL4 (opens_l _ _ (gz_le hH hL4) ) ?_
  rintro _ w5 rfl hx5 hL5 hle5
  refine S_pu 2 rfl ?_
  refine S_split (s := 29) rfl (fun hg6 => ?_) (fun hg6 => ?_)
  · replace h := Go.L.ite_t hg6 h
    refine S_unwanted rfl rfl hg6 rfl ?_
    refine S_unwanted rfl rfl hg6 rfl ?_
    refine S_unwanted rfl rfl hg6 rfl ?_
    refine S_v (r_pickT rfl hg6 rfl) rfl ?_
    refine S_pu 1 rfl ?_
    refine S_unwanted rfl rfl rfl rfl ?_
    refine S_unwanted rfl rfl rfl rfl ?_
    refine S_unwanted rfl rfl rfl rfl ?_
    refine S_unwanted rfl rfl rfl rfl ?_
    refine S_unwanted rfl rfl rfl rfl ?_
    refine S_unwanted rfl rfl rfl rfl ?_
    refine S_v (r_pickT rfl rfl rfl) rfl ?_
    refine S_pu 1 rfl ?_
    refine S_unwanted rfl rfl rfl rfl ?_
    refine S_unwanted rfl rfl rfl rfl ?_
    refine S_unwanted rfl rfl rfl rfl ?_
    refine S_unwanted rfl rfl rfl rfl ?_
    refine S_unwanted rfl rfl rfl rfl ?_
    refine S_unwanted rfl rfl rfl rfl ?_
    refine S_v (r_pickT rfl rfl rfl) rfl ?_
    refine S_pu 1 rfl ?_
    refine S_unwanted rfl rfl rfl rfl ?_
    refine S_unwanted rfl rfl rfl rfl ?_
    refine S_v (r_pickT rfl rfl rfl) rfl ?_
    refine S_pu 1 rfl ?_
    refine S_unwanted rfl rfl rfl rfl ?_
    refine S_unwanted rfl rfl rfl rfl ?_
    refine S_unwanted rfl rfl rfl rfl ?_
    refine S_v (r_pickT rfl rfl rfl) rfl ?_
    refine S_seqnil ?_
    refine W_true rfl ?_
    refine W_seqr ?_
    refine S_callL rfl rfl hL5 (opens_l _ _ (gz_le hH hL5) ) ?_
    rintro _ w8 rfl hx8 hL8 hle8
    refine S_pu 1 rfl ?_
    refine S_split (s := 60) rfl (fun hg9 => ?_) (fun hg9 => ?_)
    · replace h := Go.L.ite_t hg9 h
      refine S_guarded rfl rfl hg9 ?_
      refine S_v (r_field rfl Try.underlying25 rfl zr3 (by decide)) rfl ?_
      refine S_guarded rfl rfl hg9 ?_
      refine S_v (r_loadB1 0 rfl Try.underlying3 rfl hL8 rfl rfl) rfl ?_
      refine S_guarded rfl rfl hg9 ?_
      refine S_v (RunsAt_pu rfl) rfl ?_
      refine S_guarded rfl rfl hg9 ?_
      refine S_v (RunsAt_pu rfl) rfl ?_
      refine S_split (s := 64) rfl (fun hg11 => ?_) (fun hg11 => ?_)
      · replace h := Go.L.ite_p (of_decide_eq_true hg11) h
        refine S_unwanted rfl rfl hg11 rfl ?_
        refine S_unwanted rfl rfl hg11 rfl ?_
        refine S_unwanted rfl rfl hg11 rfl ?_
        refine S_guarded rfl rfl hg9 ?_
        refine S_v (r_pickT rfl hg11 rfl) rfl ?_
        refine S_v (r_pickT rfl hg9 rfl) rfl ?_
        refine S_pu 1 rfl ?_
        refine S_seqnil ?_
        refine W_ret ?_
        refine At_seq_ret ?_
        obtain rfl := Option.some.inj h
        refine At_body rfl rfl ?_
        exact ⟨hL8.ext, rfl⟩
      · replace h := Go.L.ite_n (of_decide_eq_false hg11) h
        refine S_guarded rfl rfl hg11 ?_
        refine S_v (RunsAt_pu rfl) rfl ?_
        refine S_guarded rfl rfl hg11 ?_
        refine S_v (r_lenR (i := 1) rfl Try.underlying23 hL8 rfl) rfl ?_
        refine S_guarded rfl rfl hg11 ?_
        refine S_v (RunsAt_pu rfl) rfl ?_
        refine S_guarded rfl rfl hg9 ?_
        refine S_v (r_pickF rfl hg11 rfl) rfl ?_
        refine S_v (r_pickT rfl hg9 rfl) rfl ?_
        refine S_pu 1 rfl ?_
        refine S_seqnil ?_
        refine W_ret ?_
        refine At_seq_ret ?_
        obtain rfl := Option.some.inj h
        refine At_body rfl rfl ?_
        exact ⟨hL8.ext, rfl⟩
    · replace h := Go.L.ite_f hg9 h
      refine S_unwanted rfl rfl hg9 rfl ?_
      refine S_unwanted rfl rfl hg9 rfl ?_
      refine S_unwanted rfl rfl hg9 rfl ?_
      refine S_unwanted rfl rfl hg9 rfl ?_
      refine S_unwanted2 rfl rfl rfl ?_
      refine S_unwanted2 rfl rfl rfl ?_
      refine S_unwanted2 rfl rfl rfl ?_
      refine S_unwanted rfl rfl hg9 rfl ?_
      refine S_v (r_pickF rfl hg9 rfl) rfl ?_
      refine S_pu 1 rfl ?_
      refine S_seqnil ?_
      refine W_ret ?_
      refine At_seq_ret ?_
      obtain rfl := Option.some.inj h
      refine At_body rfl rfl ?_
      exact ⟨hL8.ext, rfl⟩
  · replace h := Go.L.ite_f hg6 h
    refine S_guarded rfl rfl hg6 ?_
    refine S_v (r_field rfl Try.underlying25 rfl zr3 (by decide)) rfl ?_
    refine S_guarded rfl rfl hg6 ?_
    refine S_v (r_loadB1 0 rfl Try.underlying3 rfl hL5 rfl rfl) rfl ?_
    refine S_guarded rfl rfl hg6 ?_
    refine S_v (RunsAt_pu rfl) rfl ?_
    refine S_v (r_pickF rfl hg6 rfl) rfl ?_
    refine S_pu 1 rfl ?_
    refine S_split (s := 34) rfl (fun hg16 => ?_) (fun hg16 => ?_)
    · replace h := Go.L.ite_n (not_dec_t hg16) h
      refine S_unwanted rfl rfl hg16 rfl ?_
      refine S_unwanted rfl rfl hg16 rfl ?_
      refine S_unwanted rfl rfl hg16 rfl ?_
      refine S_unwanted rfl rfl hg16 rfl ?_
      refine S_unwanted rfl rfl hg16 rfl ?_
      refine S_unwanted rfl rfl hg16 rfl ?_
      refine S_v (r_pickT rfl hg16 rfl) rfl ?_
      refine S_pu 1 rfl ?_
      refine S_unwanted rfl rfl rfl rfl ?_
      refine S_unwanted rfl rfl rfl rfl ?_
      refine S_unwanted rfl rfl rfl rfl ?_
      refine S_unwanted rfl rfl rfl rfl ?_
      refine S_unwanted rfl rfl rfl rfl ?_
      refine S_unwanted rfl rfl rfl rfl ?_
      refine S_v (r_pickT rfl rfl rfl) rfl ?_
      refine S_pu 1 rfl ?_
      refine S_unwanted rfl rfl rfl rfl ?_
      refine S_unwanted rfl rfl rfl rfl ?_
      refine S_v (r_pickT rfl rfl rfl) rfl ?_
      refine S_pu 1 rfl ?_
      refine S_unwanted rfl rfl rfl rfl ?_
      refine S_unwanted rfl rfl rfl rfl ?_
      refine S_unwanted rfl rfl rfl rfl ?_
      refine S_v (r_pickT rfl rfl rfl) rfl ?_
      refine S_seqnil ?_
      refine W_true rfl ?_
      refine W_seqr ?_
      refine S_callL rfl rfl hL5 (opens_l _ _ (gz_le hH hL5) ) ?_
      rintro _ w18 rfl hx18 hL18 hle18
      refine S_pu 1 rfl ?_
      refine S_split (s := 60) rfl (fun hg19 => ?_) (fun hg19 => ?_)
      · replace h := Go.L.ite_t hg19 h
        refine S_guarded rfl rfl hg19 ?_
        refine S_v (r_field rfl Try.underlying25 rfl zr3 (by decide)) rfl ?_
        refine S_guarded rfl rfl hg19 ?_
        refine S_v (r_loadB1 0 rfl Try.underlying3 rfl hL18 rfl rfl) rfl ?_
        refine S_guarded rfl rfl hg19 ?_
        refine S_v (RunsAt_pu rfl) rfl ?_
        refine S_guarded rfl rfl hg19 ?_
        refine S_v (RunsAt_pu rfl) rfl ?_
        refine S_split (s := 64) rfl (fun hg21 => ?_) (fun hg21 => ?_)
        · replace h := Go.L.ite_p (of_decide_eq_true hg21) h
          refine S_unwanted rfl rfl hg21 rfl ?_
          refine S_unwanted rfl rfl hg21 rfl ?_
          refine S_unwanted rfl rfl hg21 rfl ?_
          refine S_guarded rfl rfl hg19 ?_
          refine S_v (r_pickT rfl hg21 rfl) rfl ?_
          refine S_v (r_pickT rfl hg19 rfl) rfl ?_
          refine S_pu 1 rfl ?_
          refine S_seqnil ?_
          refine W_ret ?_
          refine At_seq_ret ?_
          obtain rfl := Option.some.inj h
          refine At_body rfl rfl ?_
          exact ⟨hL18.ext, rfl⟩
        · replace h := Go.L.ite_n (of_decide_eq_false hg21) h
          refine S_guarded rfl rfl hg21 ?_
          refine S_v (RunsAt_pu rfl) rfl ?_
          refine S_guarded rfl rfl hg21 ?_
          refine S_v (r_lenR (i := 1) rfl Try.underlying23 hL18 rfl) rfl ?_
          refine S_guarded rfl rfl hg21 ?_
          refine S_v (RunsAt_pu rfl) rfl ?_
          refine S_guarded rfl rfl hg19 ?_
          refine S_v (r_pickF rfl hg21 rfl) rfl ?_
          refine S_v (r_pickT rfl hg19 rfl) rfl ?_
          refine S_pu 1 rfl ?_
          refine S_seqnil ?_
          refine W_ret ?_
          refine At_seq_ret ?_
          obtain rfl := Option.some.inj h
          refine At_body rfl rfl ?_
          exact ⟨hL18.ext, rfl⟩
      · replace h := Go.L.ite_f hg19 h
        refine S_unwanted rfl rfl hg19 rfl ?_
        refine S_unwanted rfl rfl hg19 rfl ?_
        refine S_unwanted rfl rfl hg19 rfl ?_
        refine S_unwanted rfl rfl hg19 rfl ?_
        refine S_unwanted2 rfl rfl rfl ?_
        refine S_unwanted2 rfl rfl rfl ?_
        refine S_unwanted2 rfl rfl rfl ?_
        refine S_unwanted rfl rfl hg19 rfl ?_
        refine S_v (r_pickF rfl hg19 rfl) rfl ?_
        refine S_pu 1 rfl ?_
        refine S_seqnil ?_
        refine W_ret ?_
        refine At_seq_ret ?_
        obtain rfl := Option.some.inj h
        refine At_body rfl rfl ?_
        exact ⟨hL18.ext, rfl⟩
    · replace h := Go.L.ite_p (not_dec_f hg16) h
      refine S_guarded rfl rfl hg16 ?_
      refine S_v (RunsAt_pu rfl) rfl ?_
      refine S_guarded rfl rfl hg16 ?_
      refine S_v (RunsAt_pu rfl) rfl ?_
      refine S_guarded rfl rfl hg16 ?_
      refine S_v (r_lenR (i := 1) rfl Try.underlying23 hL5 rfl) rfl ?_
      refine S_guarded rfl rfl hg16 ?_
      obtain ⟨hk26, h⟩ := Go.L.chk_some h
      refine S_v (r_ar64 rfl rfl rfl hk26) rfl ?_
      refine S_guarded rfl rfl hg16 ?_
      refine S_callL rfl rfl hL5 (in_l _ _ (gz_le hH hL5) ) ?_
      rintro _ w27 rfl hx27 hL27 hle27
      refine S_guarded rfl rfl hg16 ?_
      refine S_v (RunsAt_pu rfl) rfl ?_
      refine S_v (r_pickF rfl hg16 rfl) rfl ?_
      refine S_pu 1 rfl ?_
      refine S_split (s := 42) rfl (fun hg28 => ?_) (fun hg28 => ?_)
      · replace h := Go.L.ite_n (not_dec_t hg28) h
        refine S_unwanted rfl rfl hg28 rfl ?_
        refine S_unwanted rfl rfl hg28 rfl ?_
        refine S_unwanted rfl rfl hg28 rfl ?_
        refine S_unwanted rfl rfl hg28 rfl ?_
        refine S_unwanted rfl rfl hg28 rfl ?_
        refine S_unwanted rfl rfl hg28 rfl ?_
        refine S_v (r_pickT rfl hg28 rfl) rfl ?_
        refine S_pu 1 rfl ?_
        refine S_unwanted rfl rfl rfl rfl ?_
        refine S_unwanted rfl rfl rfl rfl ?_
        refine S_v (r_pickT rfl rfl rfl) rfl ?_
        refine S_pu 1 rfl ?_
        refine S_unwanted rfl rfl rfl rfl ?_
        refine S_unwanted rfl rfl rfl rfl ?_
        refine S_unwanted rfl rfl rfl rfl ?_
        refine S_v (r_pickT rfl rfl rfl) rfl ?_
        refine S_seqnil ?_
        refine W_true rfl ?_
        refine W_seqr ?_
        refine S_callL rfl rfl hL27 (opens_l _ _ (gz_le hH hL27) ) ?_
        rintro _ w30 rfl hx30 hL30 hle30
        refine S_pu 1 rfl ?_
        refine S_split (s := 60) rfl (fun hg31 => ?_) (fun hg31 => ?_)
        · replace h := Go.L.ite_t hg31 h
          refine S_guarded rfl rfl hg31 ?_
          refine S_v (r_field rfl Try.underlying25 rfl zr3 (by decide)) rfl ?_
          refine S_guarded rfl rfl hg31 ?_
          refine S_v (r_loadB1 0 rfl Try.underlying3 rfl hL30 rfl rfl) rfl ?_
          refine S_guarded rfl rfl hg31 ?_
          refine S_v (RunsAt_pu rfl) rfl ?_
          refine S_guarded rfl rfl hg31 ?_
          refine S_v (RunsAt_pu rfl) rfl ?_
          refine S_split (s := 64) rfl (fun hg33 => ?_) (fun hg33 => ?_)
          · replace h := Go.L.ite_p (of_decide_eq_true hg33) h
            refine S_unwanted rfl rfl hg33 rfl ?_
            refine S_unwanted rfl rfl hg33 rfl ?_
            refine S_unwanted rfl rfl hg33 rfl ?_
            refine S_guarded rfl rfl hg31 ?_
            refine S_v (r_pickT rfl hg33 rfl) rfl ?_
            refine S_v (r_pickT rfl hg31 rfl) rfl ?_
            refine S_pu 1 rfl ?_
            refine S_seqnil ?_
            refine W_ret ?_
            refine At_seq_ret ?_
            obtain rfl := Option.some.inj h
            refine At_body rfl rfl ?_
            exact ⟨hL30.ext, rfl⟩
          · replace h := Go.L.ite_n (of_decide_eq_false hg33) h
            refine S_guarded rfl rfl hg33 ?_
            refine S_v (RunsAt_pu rfl) rfl ?_
            refine S_guarded rfl rfl hg33 ?_
            refine S_v (r_lenR (i := 1) rfl Try.underlying23 hL30 rfl) rfl ?_
            refine S_guarded rfl rfl hg33 ?_
            refine S_v (RunsAt_pu rfl) rfl ?_
            refine S_guarded rfl rfl hg31 ?_
            refine S_v (r_pickF rfl hg33 rfl) rfl ?_
            refine S_v (r_pickT rfl hg31 rfl) rfl ?_
            refine S_pu 1 rfl ?_
            refine S_seqnil ?_
            refine W_ret ?_
            refine At_seq_ret ?_
            obtain rfl := Option.some.inj h
            refine At_body rfl rfl ?_
            exact ⟨hL30.ext, rfl⟩
        · replace h := Go.L.ite_f hg31 h
          refine S_unwanted rfl rfl hg31 rfl ?_
          refine S_unwanted rfl rfl hg31 rfl ?_
          refine S_unwanted rfl rfl hg31 rfl ?_
          refine S_unwanted rfl rfl hg31 rfl ?_
          refine S_unwanted2 rfl rfl rfl ?_
          refine S_unwanted2 rfl rfl rfl ?_
          refine S_unwanted2 rfl rfl rfl ?_
          refine S_unwanted rfl rfl hg31 rfl ?_
          refine S_v (r_pickF rfl hg31 rfl) rfl ?_
          refine S_pu 1 rfl ?_
          refine S_seqnil ?_
          refine W_ret ?_
          refine At_seq_ret ?_
          obtain rfl := Option.some.inj h
          refine At_body rfl rfl ?_
          exact ⟨hL30.ext, rfl⟩
      · replace h := Go.L.ite_p (not_dec_f hg28) h
        refine S_guarded rfl rfl hg28 ?_
        refine S_v (RunsAt_pu rfl) rfl ?_
        refine S_guarded rfl rfl hg28 ?_
        refine S_v (RunsAt_pu rfl) rfl ?_
        refine S_guarded rfl rfl hg28 ?_
        refine S_v (r_len rfl Try.underlying22 h0_0) rfl ?_
        refine S_guarded rfl rfl hg28 ?_
        obtain ⟨hk38, h⟩ := Go.L.chk_some h
        refine S_v (r_ar64 rfl rfl rfl hk38) rfl ?_
        refine S_guarded rfl rfl hg28 ?_
        refine S_callL rfl rfl hL27 (in_l _ _ (gz_le hH hL27) ) ?_
        rintro _ w39 rfl hx39 hL39 hle39
        refine S_guarded rfl rfl hg28 ?_
        refine S_v (RunsAt_pu rfl) rfl ?_
        refine S_v (r_pickF rfl hg28 rfl) rfl ?_
        refine S_pu 1 rfl ?_
        refine S_pickF 2 23 rfl rfl rfl rfl rfl rfl rfl ?_
        refine S_pu 1 rfl ?_
        refine S_pickF 3 27 rfl rfl rfl rfl rfl rfl rfl ?_
        refine S_seqnil ?_
        refine W_cond rfl (fun hc40 => ?_) (fun hc40 => ?_)
        · replace h := Go.L.ite_t hc40 h
          refine W_seqr ?_
          refine S_callL rfl rfl hL39 (opens_l _ _ (gz_le hH hL39) ) ?_
          rintro _ w42 rfl hx42 hL42 hle42
          refine S_pu 1 rfl ?_
          refine S_split (s := 60) rfl (fun hg43 => ?_) (fun hg43 => ?_)
          · replace h := Go.L.ite_t hg43 h
            refine S_guarded rfl rfl hg43 ?_
            refine S_v (r_field rfl Try.underlying25 rfl zr3 (by decide)) rfl ?_
            refine S_guarded rfl rfl hg43 ?_
            refine S_v (r_loadB1 0 rfl Try.underlying3 rfl hL42 rfl rfl) rfl ?_
            refine S_guarded rfl rfl hg43 ?_
            refine S_v (RunsAt_pu rfl) rfl ?_
            refine S_guarded rfl rfl hg43 ?_
            refine S_v (RunsAt_pu rfl) rfl ?_
            refine S_split (s := 64) rfl (fun hg45 => ?_) (fun hg45 => ?_)
            · replace h := Go.L.ite_p (of_decide_eq_true hg45) h
              refine S_unwanted rfl rfl hg45 rfl ?_
              refine S_unwanted rfl rfl hg45 rfl ?_
              refine S_unwanted rfl rfl hg45 rfl ?_
              refine S_guarded rfl rfl hg43 ?_
              refine S_v (r_pickT rfl hg45 rfl) rfl ?_
              refine S_v (r_pickT rfl hg43 rfl) rfl ?_
              refine S_pu 1 rfl ?_
              refine S_seqnil ?_
              refine W_ret ?_
              refine At_seq_ret ?_
              obtain rfl := Option.some.inj h
              refine At_body rfl rfl ?_
              exact ⟨hL42.ext, rfl⟩
            · replace h := Go.L.ite_n (of_decide_eq_false hg45) h
              refine S_guarded rfl rfl hg45 ?_
              refine S_v (RunsAt_pu rfl) rfl ?_
              refine S_guarded rfl rfl hg45 ?_
              refine S_v (r_lenR (i := 1) rfl Try.underlying23 hL42 rfl) rfl ?_
              refine S_guarded rfl rfl hg45 ?_
              refine S_v (RunsAt_pu rfl) rfl ?_
              refine S_guarded rfl rfl hg43 ?_
              refine S_v (r_pickF rfl hg45 rfl) rfl ?_
              refine S_v (r_pickT rfl hg43 rfl) rfl ?_
              refine S_pu 1 rfl ?_
              refine S_seqnil ?_
              refine W_ret ?_
              refine At_seq_ret ?_
              obtain rfl := Option.some.inj h
              refine At_body rfl rfl ?_
              exact ⟨hL42.ext, rfl⟩
          · replace h := Go.L.ite_f hg43 h
            refine S_unwanted rfl rfl hg43 rfl ?_
            refine S_unwanted rfl rfl hg43 rfl ?_
            refine S_unwanted rfl rfl hg43 rfl ?_
            refine S_unwanted rfl rfl hg43 rfl ?_
            refine S_unwanted2 rfl rfl rfl ?_
            refine S_unwanted2 rfl rfl rfl ?_
            refine S_unwanted2 rfl rfl rfl ?_
            refine S_unwanted rfl rfl hg43 rfl ?_
            refine S_v (r_pickF rfl hg43 rfl) rfl ?_
            refine S_pu 1 rfl ?_
            refine S_seqnil ?_
            refine W_ret ?_
            refine At_seq_ret ?_
            obtain rfl := Option.some.inj h
            refine At_body rfl rfl ?_
            exact ⟨hL42.ext, rfl⟩
        · replace h := Go.L.ite_f hc40 h
          refine W_skip ?_
          refine At_seq ?_
          refine W_seq ?_
          refine W_seqr ?_
          refine S_pu 1 rfl ?_
          refine S_v (r_lenR (i := 1) rfl Try.underlying23 hL39 rfl) rfl ?_
          refine S_pu 3 rfl ?_
          refine S_split (s := 74) rfl (fun hg50 => ?_) (fun hg50 => ?_)
          · replace h := Go.L.ite_n (not_dec_t hg50) h
            refine S_unwanted rfl rfl hg50 rfl ?_
            refine S_unwanted rfl rfl hg50 rfl ?_
            refine S_unwanted rfl rfl hg50 rfl ?_
            refine S_unwanted rfl rfl hg50 rfl ?_
            refine S_unwanted rfl rfl hg50 rfl ?_
            refine S_unwanted rfl rfl hg50 rfl ?_
            refine S_unwanted rfl rfl hg50 rfl ?_
            refine S_unwanted rfl rfl hg50 rfl ?_
            refine S_unwanted rfl rfl hg50 rfl ?_
            refine S_v (r_pickT rfl hg50 rfl) rfl ?_
            refine S_seqnil ?_
            refine W_true rfl ?_
            refine W_seqr ?_
            refine S_pu 1 rfl ?_
            refine S_seqnil ?_
            refine W_ret ?_
            refine At_seq_ret ?_
            obtain rfl := Option.some.inj h
            refine At_body rfl rfl ?_
            exact ⟨hL39.ext, rfl⟩
          · replace h := Go.L.ite_p (not_dec_f hg50) h
            refine S_guarded rfl rfl hg50 ?_
            refine S_v (RunsAt_pu rfl) rfl ?_
            refine S_guarded rfl rfl hg50 ?_
            refine S_v (RunsAt_pu rfl) rfl ?_
            refine S_guarded rfl rfl hg50 ?_
            obtain ⟨hk54, h⟩ := Go.L.chk_some h
            refine S_indexQ (N := Nb.s) (e := 5) (A := [.box b3 [.int .i64 x1.2.1, .int .i64 x1.2.2] 25, .row (u2) 32 2 (x1.1).length (nC Nb.s (x1.1) (vs2))]) (l := x1.1) (vs := vs2) 1 rfl rfl Try.underlying23 zr32 hL39 rfl hn2 a4.toNat (Int.toNat_of_nonneg hk54.1).symm (idx_lt hk54) rfl ?_
            intro p53 (hp53 : PtrTo (hp w39) p53 [.int .i64 ((x1.1.getD a4.toNat default).1), (vs2.getD a4.toNat default)])
            refine S_guarded rfl rfl hg50 ?_
            refine S_v (r_field rfl Try.underlying32 rfl zr22 (by decide)) rfl ?_
            have hp55 := hp53.add 1
            refine S_guarded rfl rfl hg50 ?_
            refine S_v (r_load1 rfl Try.underlying22 rfl hp55 (Le.refl _)) rfl ?_
            refine S_guarded rfl rfl hg50 ?_
            refine S_v (r_len rfl Try.underlying22 (nest_vec (N := Nb.s) (e := 5) (A := [.box b3 [.int .i64 x1.2.1, .int .i64 x1.2.2] 25, .row (u2) 32 2 (x1.1).length (nC Nb.s (x1.1) (vs2))]) (l := x1.1) (vs := vs2) hL39 hn2 a4.toNat (idx_lt hk54))) rfl ?_
            refine S_guarded rfl rfl hg50 ?_
            refine S_v (RunsAt_pu rfl) rfl ?_
            refine S_guarded rfl rfl hg50 ?_
            refine S_v (r_len rfl Try.underlying22 h0_0) rfl ?_
            refine S_guarded rfl rfl hg50 ?_
            refine S_v (RunsAt_pu rfl) rfl ?_
            refine S_v (r_pickF rfl hg50 rfl) rfl ?_
            refine S_seqnil ?_
            refine W_ifn rfl (fun hc56 => ?_) (fun hc56 => ?_)
            · replace h := Go.L.ite_n hc56 h
              refine W_seqr ?_
              refine S_pu 1 rfl ?_
              refine S_seqnil ?_
              refine W_ret ?_
              refine At_seq_ret ?_
              obtain rfl := Option.some.inj h
              refine At_body rfl rfl ?_
              exact ⟨hL39.ext, rfl⟩
            · replace h := Go.L.ite_p hc56 h
              refine W_skip ?_
              refine At_seq ?_
              refine W_seqd (.q 0 (.q 1 (.q 2 (.q 3 (.q 4 (.q 5 (.q 6 (.q 7 (.q 8 (.q 9 (.q 10 (.q 11 (.q 12 (.q 13 (.q 14 (.q 15 (.tail 16))))))))))))))))) mixed (by kernel_rfl) (fun w59 hx59 => ?_)
              have hL60 := hL39.call hx59
              refine D_pu 2 rfl ?_
              obtain ⟨hk62, h⟩ := Go.L.chk_some h
              refine D_indexQ (N := Nb.s) (e := 5) (A := [.box b3 [.int .i64 x1.2.1, .int .i64 x1.2.2] 25, .row (u2) 32 2 (x1.1).length (nC Nb.s (x1.1) (vs2))]) (l := x1.1) (vs := vs2) 1 rfl rfl rfl Try.underlying23 zr32 hL60 rfl hn2 a4.toNat (Int.toNat_of_nonneg hk62.1).symm (idx_lt hk62) rfl ?_
              intro p61 (hp61 : PtrTo (hp w59) p61 [.int .i64 ((x1.1.getD a4.toNat default).1), (vs2.getD a4.toNat default)])
              refine D_v (r_field rfl Try.underlying32 rfl zr22 (by decide)) rfl rfl ?_
              have hp63 := hp61.add 1
              refine D_v (r_load1 rfl Try.underlying22 rfl hp63 (Le.refl _)) rfl rfl ?_
              refine D_pu 3 rfl ?_
              obtain ⟨hk65, h⟩ := Go.L.chk_some h
              refine D_indexQ (N := Nb.s) (e := 5) (A := [.box b3 [.int .i64 x1.2.1, .int .i64 x1.2.2] 25, .row (u2) 32 2 (x1.1).length (nC Nb.s (x1.1) (vs2))]) (l := x1.1) (vs := vs2) 1 rfl rfl rfl Try.underlying23 zr32 hL60 rfl hn2 a4.toNat (Int.toNat_of_nonneg hk65.1).symm (idx_lt hk65) rfl ?_
              intro p64 (hp64 : PtrTo (hp w59) p64 [.int .i64 ((x1.1.getD a4.toNat default).1), (vs2.getD a4.toNat default)])
              refine D_v (r_field rfl Try.underlying32 rfl zr22 (by decide)) rfl rfl ?_
              have hp66 := hp64.add 1
              refine D_v (r_load1 rfl Try.underlying22 rfl hp66 (Le.refl _)) rfl rfl ?_
              refine D_pu 1 rfl ?_
              obtain ⟨hk68, h⟩ := Go.L.chk_some h
              refine D_index rfl rfl rfl Try.underlying22 zr5 (nest_vec (N := Nb.s) (e := 5) (A := [.box b3 [.int .i64 x1.2.1, .int .i64 x1.2.2] 25, .row (u2) 32 2 (x1.1).length (nC Nb.s (x1.1) (vs2))]) (l := x1.1) (vs := vs2) hL60 hn2 a4.toNat (idx_lt hk65)) a5.toNat (Int.toNat_of_nonneg hk68.1).symm (idx_lt hk68) rfl ?_
              rintro p67 _ rfl hp67
              refine D_v (r_load1 rfl Try.underlying5 rfl hp67 (Le.refl _)) rfl rfl ?_
              refine D_pu 1 rfl ?_
              refine D_v (r_bit8 rfl rfl rfl) rfl rfl ?_
              refine D_tail (fun w69 hx69 => ?_)
              have hL70 := hL60.call hx69
              obtain ⟨hk72, h⟩ := Go.L.chk_some h
              refine S_indexI (N := Nb.s) (e := 5) (A := [.box b3 [.int .i64 x1.2.1, .int .i64 x1.2.2] 25, .row (u2) 32 2 (x1.1).length (nC Nb.s (x1.1) (vs2))]) (l := x1.1) (vs := vs2) a4.toNat rfl rfl Try.underlying22 zr5 hL70 hn2 (idx_lt hk62) a5.toNat (Int.toNat_of_nonneg hk72.1).symm (idx_lt hk72) rfl ?_
              intro p71 hp71
              refine S_storeI (N := Nb.s) (e := 5) (l := x1.1) (vs := vs2) (fun zl => [.box b3 [.int .i64 x1.2.1, .int .i64 x1.2.2] 25, .row (u2) 32 2 zl.length (nC Nb.s zl (vs2))]) (m := a4.toNat) (j := a5.toNat) (z := (((x1.1.getD a4.toNat default).2).getD a5.toNat default ^^^ a6)) rfl rfl zr5 hL70 hn2 (fun l' h1 h2 => by simp only [h1, h2]) (idx_lt hk62) hp71 (idx_lt hk72) ?_
              intro w73 hn73 hL73 hle73
              refine S_seqnil ?_
              refine W_seqr ?_
              refine S_pu 2 rfl ?_
              obtain ⟨hL74, hle74, hv74⟩ := nest_pub (N := Nb.s) (e := 5) (A := [.box b3 [.int .i64 x1.2.1, .int .i64 x1.2.2] 25, .row (u2) 32 2 ((x1.1.set a4.toNat ((x1.1.getD a4.toNat default).1, ((x1.1.getD a4.toNat default).2.set a5.toNat (((x1.1.getD a4.toNat default).2).getD a5.toNat default ^^^ a6))))).length (nC Nb.s ((x1.1.set a4.toNat ((x1.1.getD a4.toNat default).1, ((x1.1.getD a4.toNat default).2.set a5.toNat (((x1.1.getD a4.toNat default).2).getD a5.toNat default ^^^ a6))))) (vs2))]) (l := (x1.1.set a4.toNat ((x1.1.getD a4.toNat default).1, ((x1.1.getD a4.toNat default).2.set a5.toNat (((x1.1.getD a4.toNat default).2).getD a5.toNat default ^^^ a6))))) (vs := vs2) (r := (.pair (.int .i64) (.vec .byte))) 1 hH (fun _ _ _ h => ⟨_, _, rfl, rfl, _, rfl, h⟩) hn73 hL73 rfl
              refine S_callL rfl rfl hL74 (join_l _ _ (gz_le hH hL74) hv74) ?_
              rintro _ w75 ⟨u75_0, rfl, hR75_0⟩ hx75 hL75 hle75
              have hv75_0 := hR75_0.vecG hH hL74 hx75
              replace hv74 := hv74.mono (gz_mono hH hle75)
              refine S_pu 3 rfl ?_
              refine S_alloc zr25 rfl rfl hL75 ?_
              intro w76 b76 hL76 hle76 _
              replace hv74 := hv74.mono (gz_mono hH hle76)
              replace hv75_0 := hv75_0.mono (gz_mono hH hle76)
              refine S_pu 1 rfl ?_
              refine S_storeBN 0 rfl rfl rfl zr25 hL76 rfl rfl (onc rfl (onc rfl on0)) ?_
              intro w77 hL77 hle77
              replace hv74 := hv74.mono (gz_mono hH hle77)
              replace hv75_0 := hv75_0.mono (gz_mono hH hle77)
              refine S_seqnil ?_
              refine W_seqr ?_
              refine S_v (r_field rfl Try.underlying25 rfl zr3 (by decide)) rfl ?_
              refine S_v (r_loadB1 0 rfl Try.underlying3 rfl hL77 rfl rfl) rfl ?_
              refine S_pu 2 rfl ?_
              refine S_split (s := 111) rfl (fun hg78 => ?_) (fun hg78 => ?_)
              · replace h := Go.L.ite_p (of_decide_eq_true hg78) h
                refine S_guarded rfl rfl hg78 ?_
                refine S_v (r_field rfl Try.underlying25 rfl zr3 (by decide)) rfl ?_
                refine S_guarded rfl rfl hg78 ?_
                refine S_v (r_loadB1 0 rfl Try.underlying3 rfl hL77 rfl rfl) rfl ?_
                refine S_guarded rfl rfl hg78 ?_
                refine S_v (RunsAt_pu rfl) rfl ?_
                refine S_guarded rfl rfl hg78 ?_
                refine S_v (RunsAt_pu rfl) rfl ?_
                refine S_guarded rfl rfl hg78 ?_
                obtain ⟨hk80, h⟩ := Go.L.chk_some h
                refine S_v (r_ar64 rfl rfl rfl hk80) rfl ?_
                refine S_guarded rfl rfl hg78 ?_
                refine S_callL rfl rfl hL77 (in_l _ _ (gz_le hH hL77) ) ?_
                rintro _ w81 rfl hx81 hL81 hle81
                replace hv75_0 := hv75_0.mono (gz_mono hH hle81)
                refine S_v (r_pickT rfl hg78 rfl) rfl ?_
                refine S_pu 1 rfl ?_
                refine S_split (s := 119) rfl (fun hg82 => ?_) (fun hg82 => ?_)
                · replace h := Go.L.ite_p (of_decide_eq_true hg82) h
                  refine S_guarded rfl rfl hg82 ?_
                  refine S_v (RunsAt_pu rfl) rfl ?_
                  refine S_guarded rfl rfl hg82 ?_
                  refine S_v (r_len rfl Try.underlying22 hv75_0) rfl ?_
                  refine S_guarded rfl rfl hg82 ?_
                  refine S_v (RunsAt_pu rfl) rfl ?_
                  refine S_v (r_pickT rfl hg82 rfl) rfl ?_
                  refine S_pu 1 rfl ?_
                  refine S_seqnil ?_
                  refine W_ret ?_
                  obtain rfl := Option.some.inj h
                  refine At_body rfl rfl ?_
                  exact ⟨hL81.ext, rfl⟩
                · replace h := Go.L.ite_n (of_decide_eq_false hg82) h
                  refine S_unwanted rfl rfl hg82 rfl ?_
                  refine S_unwanted rfl rfl hg82 rfl ?_
                  refine S_unwanted rfl rfl hg82 rfl ?_
                  refine S_v (r_pickF rfl hg82 rfl) rfl ?_
                  refine S_pu 1 rfl ?_
                  refine S_seqnil ?_
                  refine W_ret ?_
                  obtain rfl := Option.some.inj h
                  refine At_body rfl rfl ?_
                  exact ⟨hL81.ext, rfl⟩
              · replace h := Go.L.ite_n (of_decide_eq_false hg78) h
                refine S_unwanted rfl rfl hg78 rfl ?_
                refine S_unwanted rfl rfl hg78 rfl ?_
                refine S_unwanted rfl rfl hg78 rfl ?_
                refine S_unwanted rfl rfl hg78 rfl ?_
                refine S_unwanted rfl rfl hg78 rfl ?_
                refine S_unwanted rfl rfl hg78 rfl ?_
                refine S_v (r_pickF rfl hg78 rfl) rfl ?_
                refine S_pu 1 rfl ?_
                refine S_unwanted rfl rfl rfl rfl ?_
                refine S_unwanted rfl rfl rfl rfl ?_
                refine S_unwanted rfl rfl rfl rfl ?_
                refine S_v (r_pickF rfl rfl rfl) rfl ?_
                refine S_pu 1 rfl ?_
                refine S_seqnil ?_
                refine W_ret ?_
                obtain rfl := Option.some.inj h
                refine At_body rfl rfl ?_
                exact ⟨hL77.ext, rfl⟩

noncomputable def law4_SharesMendNamesForgers_k3 (a0 : List UInt8) (a1 : Int) (l70 : List Int) (l188 : List (Int × (List UInt8))) : Option (Bool) :=
  if ((M.mnF l188 a1)).1 = (0 : Int) then if (M.mnS l188 a1) = a0 then some (decide ((M.mnB l188 a1) = l70)) else some (false) else some (false)
noncomputable def law4_SharesMendNamesForgers_bl4 (a0 : List UInt8) (a1 : Int) (a5 : List UInt8) (l70 : List Int) : (List (Int × (List UInt8))) × Int → Option (((List (Int × (List UInt8))) × Int) ⊕ (Bool)) := fun ⟨l233, s17_234⟩ =>
  if s17_234 < (l70.length : Int) then Go.L.chk (0 ≤ s17_234 ∧ s17_234 < (l70.length : Int)) (Go.L.chk (0 ≤ l70.getD s17_234.toNat default ∧ l70.getD s17_234.toNat default < (l233.length : Int)) (if (((l233.getD ((l70.getD s17_234.toNat default).toNat) default).2).length : Int) = (a0.length : Int) then Go.L.chk (0 ≤ s17_234 ∧ s17_234 < (l70.length : Int)) (Go.L.chk (0 ≤ l70.getD s17_234.toNat default ∧ l70.getD s17_234.toNat default < (l233.length : Int)) (Go.L.chk (0 ≤ s17_234 ∧ s17_234 < (l70.length : Int)) (Go.L.chk (0 ≤ l70.getD s17_234.toNat default ∧ l70.getD s17_234.toNat default ≤ 9223372036854775807 ∧ 0 < (a0.length : Int)) (Go.L.chk (0 ≤ s17_234 ∧ s17_234 < (l70.length : Int)) (Go.L.chk (0 ≤ l70.getD s17_234.toNat default ∧ l70.getD s17_234.toNat default < (l233.length : Int)) (Go.L.chk (0 ≤ s17_234 ∧ s17_234 < (l70.length : Int)) (Go.L.chk (0 ≤ l70.getD s17_234.toNat default ∧ l70.getD s17_234.toNat default ≤ 9223372036854775807 ∧ 0 < (a0.length : Int)) (Go.L.chk (0 ≤ (l70.getD s17_234.toNat default % (a0.length : Int)) ∧ (l70.getD s17_234.toNat default % (a0.length : Int)) < (((l233.getD ((l70.getD s17_234.toNat default).toNat) default).2).length : Int)) (Go.L.chk (0 ≤ s17_234 ∧ s17_234 < (l70.length : Int)) (Go.L.chk (0 ≤ l70.getD s17_234.toNat default ∧ l70.getD s17_234.toNat default < (a5.length : Int)) (Go.L.chk (0 ≤ (l70.getD s17_234.toNat default % (a0.length : Int)) ∧ (l70.getD s17_234.toNat default % (a0.length : Int)) < (((l233.getD ((l70.getD s17_234.toNat default).toNat) default).2).length : Int)) (Go.L.chk (Go.L.I64 (s17_234 + (1 : Int))) (some (Sum.inl ((l233.set ((l70.getD s17_234.toNat default).toNat) ((l233.getD ((l70.getD s17_234.toNat default).toNat) default).1, ((l233.getD ((l70.getD s17_234.toNat default).toNat) default).2.set ((l70.getD s17_234.toNat default % (a0.length : Int)).toNat) (((l233.getD ((l70.getD s17_234.toNat default).toNat) default).2).getD ((l70.getD s17_234.toNat default % (a0.length : Int)).toNat) default ^^^ a5.getD ((l70.getD s17_234.toNat default).toNat) default)))), (s17_234 + (1 : Int))))))))))))))))) else Option.map Sum.inr (some (false)))) else Option.map Sum.inr ((law4_SharesMendNamesForgers_k3 a0 a1 l70) l233)
noncomputable def law4_SharesMendNamesForgers_l4 (a0 : List UInt8) (a1 : Int) (a5 : List UInt8) (l70 : List Int) (s : (List (Int × (List UInt8))) × Int) : Option (Bool) := Go.L.run (law4_SharesMendNamesForgers_bl4 a0 a1 a5 l70) s
noncomputable def law4_SharesMendNamesForgers_k1 (a0 : List UInt8) (a1 : Int) (a2 : Int) (a5 : List UInt8) (x1 : (List (Int × (List UInt8))) × (Int × Int)) (l70 : List Int) : Option (Bool) :=
  Go.L.chk (Go.L.I64 ((2 : Int) * (l70.length : Int))) (Go.L.chk (Go.L.I64 (a2 - a1)) (if (a2 - a1) < ((2 : Int) * (l70.length : Int)) then some (true) else (law4_SharesMendNamesForgers_l4 a0 a1 a5 l70) (x1.1, (0 : Int))))
noncomputable def law4_SharesMendNamesForgers_bl2 (a0 : List UInt8) (a1 : Int) (a2 : Int) (a4 : Int) (a5 : List UInt8) (x1 : (List (Int × (List UInt8))) × (Int × Int)) : (List Int) × Int → Option (((List Int) × Int) ⊕ (Bool)) := fun ⟨l104, s16_105⟩ =>
  if s16_105 < a2 then (if s16_105 < (a5.length : Int) then Go.L.chk (0 ≤ s16_105 ∧ s16_105 < (a5.length : Int)) (if ((a5.getD s16_105.toNat default).toNat : Int) = 0 then Go.L.chk (Go.L.I64 (s16_105 + (1 : Int))) (some (Sum.inl (l104, (s16_105 + (1 : Int))))) else if (0 : Int) < (a0.length : Int) then Option.bind (digitsL (max a4 (0 : Int)) (10 : Int)) (fun x118 => Go.L.chk (Go.L.I64 ((9 : Int) - s16_105)) (Go.L.chk (0 ≤ ((9 : Int) - s16_105) ∧ ((9 : Int) - s16_105) < (x118.length : Int)) (if x118.getD (((9 : Int) - s16_105).toNat) default = (1 : Int) then Go.L.chk (Go.E.Cap 8 (l104.length + ([s16_105]).length)) (Go.L.chk (Go.L.I64 (s16_105 + (1 : Int))) (some (Sum.inl ((l104 ++ [s16_105]), (s16_105 + (1 : Int)))))) else Go.L.chk (Go.L.I64 (s16_105 + (1 : Int))) (some (Sum.inl (l104, (s16_105 + (1 : Int)))))))) else Go.L.chk (Go.L.I64 (s16_105 + (1 : Int))) (some (Sum.inl (l104, (s16_105 + (1 : Int)))))) else Go.L.chk (Go.L.I64 (s16_105 + (1 : Int))) (some (Sum.inl (l104, (s16_105 + (1 : Int)))))) else Option.map Sum.inr ((law4_SharesMendNamesForgers_k1 a0 a1 a2 a5 x1) l104)
noncomputable def law4_SharesMendNamesForgers_l2 (a0 : List UInt8) (a1 : Int) (a2 : Int) (a4 : Int) (a5 : List UInt8) (x1 : (List (Int × (List UInt8))) × (Int × Int)) (s : (List Int) × Int) : Option (Bool) := Go.L.run (law4_SharesMendNamesForgers_bl2 a0 a1 a2 a4 a5 x1) s
noncomputable def law4_SharesMendNamesForgers (a0 : List UInt8) (a1 : Int) (a2 : Int) (a3 : List UInt8) (a4 : Int) (a5 : List UInt8) : Option (Bool) :=
  Option.bind (shares_Split a0 a1 a2 a3) (fun x1 => if !true then if true then if x1.2.1 = (0 : Int) then some (false) else some (decide ((x1.1.length : Int) = (0 : Int))) else some (false) else if x1.2.1 = (0 : Int) then if (x1.1.length : Int) = a2 then (law4_SharesMendNamesForgers_l2 a0 a1 a2 a4 a5 x1) (([] : List Int), (0 : Int)) else (if true then if x1.2.1 = (0 : Int) then some (false) else some (decide ((x1.1.length : Int) = (0 : Int))) else some (false)) else if true then if x1.2.1 = (0 : Int) then some (false) else some (decide ((x1.1.length : Int) = (0 : Int))) else some (false))

set_option maxRecDepth 10000 in
theorem law4_SharesMendNamesForgers_ok (w : World) (H : PH) (hH : Le H (hp w)) {a0 : List UInt8} {a1 : Int} {a2 : Int} {a3 : List UInt8} {a4 : Int} {a5 : List UInt8} {v0_0 : Value} {v3_0 : Value} {v5_0 : Value} (h0_0 : Vec .byte H v0_0 (a0)) (h3_0 : Vec .byte H v3_0 (a3)) (h5_0 : Vec .byte H v5_0 (a5)) {r : Bool} (h : law4_SharesMendNamesForgers a0 a1 a2 a3 a4 a5 = some r) :
    Ok Try.prog 7 [v0_0, .int .i64 a1, .int .i64 a2, v3_0, .int .i64 a4, v5_0] w (fun v w' => Ext w w' ∧ v = .bool r) := by
  refine Ok_enter (n := 174) [(0, v0_0), (1, .int .i64 a1), (2, .int .i64 a2), (3, v3_0), (4, .int .i64 a4), (5, v5_0)] Try.func7 rfl rfl rfl rfl rfl ?_
  have hL := Lcl.start w
  refine W_seqr ?_
  refine S_pu 1 rfl ?_
  refine S_seqnil ?_
  refine W_seqr ?_
  refine S_pu 4 rfl ?_
  obtain ⟨x1, hb1, h⟩ := Go.L.bind_some h
  refine S_callL rfl rfl hL (shares_Split_ok _ _ (gz_le hH hL) (h0_0.mono (gz_left hH)) (h3_0.mono (gz_left hH)) hb1) ?_
  rintro _ w2 ⟨u2, vs2, rfl, hn2, hN2⟩ hx2 hL2 hle2
  obtain ⟨hL2', hle2'⟩ := nest_take hL hN2
  refine S_pu 3 rfl ?_
  refine S_alloc zr25 rfl rfl hL2' ?_
  intro w3 b3 hL3 hle3 _
  refine S_pu 1 rfl ?_
  refine S_storeBN 0 rfl rfl rfl zr25 hL3 rfl rfl (onc rfl (onc rfl on0)) ?_
  intro w4 hL4 hle4
  refine S_seqnil ?_
  refine W_seq ?_
  refine W_seqr ?_
  refine S_callL rfl rfl hL4 (opens_l _ _ (gz_le hH hL4) ) ?_
  rintro _ w5 rfl hx5 hL5 hle5
  refine S_pu 2 rfl ?_
  refine S_split (s := 31) rfl (fun hg6 => ?_) (fun hg6 => ?_)
  · replace h := Go.L.ite_t hg6 h
    refine S_unwanted rfl rfl hg6 rfl ?_
    refine S_unwanted rfl rfl hg6 rfl ?_
    refine S_unwanted rfl rfl hg6 rfl ?_
    refine S_v (r_pickT rfl hg6 rfl) rfl ?_
    refine S_pu 1 rfl ?_
    refine S_unwanted rfl rfl rfl rfl ?_
    refine S_unwanted rfl rfl rfl rfl ?_
    refine S_unwanted rfl rfl rfl rfl ?_
    refine S_unwanted rfl rfl rfl rfl ?_
    refine S_v (r_pickT rfl rfl rfl) rfl ?_
    refine S_seqnil ?_
    refine W_true rfl ?_
    refine W_seqr ?_
    refine S_callL rfl rfl hL5 (opens_l _ _ (gz_le hH hL5) ) ?_
    rintro _ w8 rfl hx8 hL8 hle8
    refine S_pu 1 rfl ?_
    refine S_split (s := 43) rfl (fun hg9 => ?_) (fun hg9 => ?_)
    · replace h := Go.L.ite_t hg9 h
      refine S_guarded rfl rfl hg9 ?_
      refine S_v (r_field rfl Try.underlying25 rfl zr3 (by decide)) rfl ?_
      refine S_guarded rfl rfl hg9 ?_
      refine S_v (r_loadB1 0 rfl Try.underlying3 rfl hL8 rfl rfl) rfl ?_
      refine S_guarded rfl rfl hg9 ?_
      refine S_v (RunsAt_pu rfl) rfl ?_
      refine S_v (r_pickT rfl hg9 rfl) rfl ?_
      refine S_pu 1 rfl ?_
      refine S_split (s := 48) rfl (fun hg11 => ?_) (fun hg11 => ?_)
      · replace h := Go.L.ite_n (not_dec_t hg11) h
        refine S_guarded rfl rfl hg11 ?_
        refine S_v (RunsAt_pu rfl) rfl ?_
        refine S_guarded rfl rfl hg11 ?_
        refine S_v (r_lenR (i := 1) rfl Try.underlying23 hL8 rfl) rfl ?_
        refine S_guarded rfl rfl hg11 ?_
        refine S_v (RunsAt_pu rfl) rfl ?_
        refine S_v (r_pickT rfl hg11 rfl) rfl ?_
        refine S_pu 1 rfl ?_
        refine S_seqnil ?_
        refine W_ret ?_
        refine At_seq_ret ?_
        obtain rfl := Option.some.inj h
        refine At_body rfl rfl ?_
        exact ⟨hL8.ext, rfl⟩
      · replace h := Go.L.ite_p (not_dec_f hg11) h
        refine S_unwanted rfl rfl hg11 rfl ?_
        refine S_unwanted rfl rfl hg11 rfl ?_
        refine S_unwanted rfl rfl hg11 rfl ?_
        refine S_v (r_pickF rfl hg11 rfl) rfl ?_
        refine S_pu 1 rfl ?_
        refine S_seqnil ?_
        refine W_ret ?_
        refine At_seq_ret ?_
        obtain rfl := Option.some.inj h
        refine At_body rfl rfl ?_
        exact ⟨hL8.ext, rfl⟩
    · replace h := Go.L.ite_f hg9 h
      refine S_unwanted rfl rfl hg9 rfl ?_
      refine S_unwanted rfl rfl hg9 rfl ?_
      refine S_unwanted rfl rfl hg9 rfl ?_
      refine S_v (r_pickF rfl hg9 rfl) rfl ?_
      refine S_pu 1 rfl ?_
      refine S_unwanted rfl rfl rfl rfl ?_
      refine S_unwanted rfl rfl rfl rfl ?_
      refine S_unwanted rfl rfl rfl rfl ?_
      refine S_v (r_pickF rfl rfl rfl) rfl ?_
      refine S_pu 1 rfl ?_
      refine S_seqnil ?_
      refine W_ret ?_
      refine At_seq_ret ?_
      obtain rfl := Option.some.inj h
      refine At_body rfl rfl ?_
      exact ⟨hL8.ext, rfl⟩
  · replace h := Go.L.ite_f hg6 h
    refine S_guarded rfl rfl hg6 ?_
    refine S_v (r_field rfl Try.underlying25 rfl zr3 (by decide)) rfl ?_
    refine S_guarded rfl rfl hg6 ?_
    refine S_v (r_loadB1 0 rfl Try.underlying3 rfl hL5 rfl rfl) rfl ?_
    refine S_guarded rfl rfl hg6 ?_
    refine S_v (RunsAt_pu rfl) rfl ?_
    refine S_v (r_pickF rfl hg6 rfl) rfl ?_
    refine S_pu 1 rfl ?_
    refine S_split (s := 36) rfl (fun hg16 => ?_) (fun hg16 => ?_)
    · replace h := Go.L.ite_n (not_dec_t hg16) h
      refine S_unwanted rfl rfl hg16 rfl ?_
      refine S_unwanted rfl rfl hg16 rfl ?_
      refine S_unwanted rfl rfl hg16 rfl ?_
      refine S_unwanted rfl rfl hg16 rfl ?_
      refine S_v (r_pickT rfl hg16 rfl) rfl ?_
      refine S_seqnil ?_
      refine W_true rfl ?_
      refine W_seqr ?_
      refine S_callL rfl rfl hL5 (opens_l _ _ (gz_le hH hL5) ) ?_
      rintro _ w18 rfl hx18 hL18 hle18
      refine S_pu 1 rfl ?_
      refine S_split (s := 43) rfl (fun hg19 => ?_) (fun hg19 => ?_)
      · replace h := Go.L.ite_t hg19 h
        refine S_guarded rfl rfl hg19 ?_
        refine S_v (r_field rfl Try.underlying25 rfl zr3 (by decide)) rfl ?_
        refine S_guarded rfl rfl hg19 ?_
        refine S_v (r_loadB1 0 rfl Try.underlying3 rfl hL18 rfl rfl) rfl ?_
        refine S_guarded rfl rfl hg19 ?_
        refine S_v (RunsAt_pu rfl) rfl ?_
        refine S_v (r_pickT rfl hg19 rfl) rfl ?_
        refine S_pu 1 rfl ?_
        refine S_split (s := 48) rfl (fun hg21 => ?_) (fun hg21 => ?_)
        · replace h := Go.L.ite_n (not_dec_t hg21) h
          refine S_guarded rfl rfl hg21 ?_
          refine S_v (RunsAt_pu rfl) rfl ?_
          refine S_guarded rfl rfl hg21 ?_
          refine S_v (r_lenR (i := 1) rfl Try.underlying23 hL18 rfl) rfl ?_
          refine S_guarded rfl rfl hg21 ?_
          refine S_v (RunsAt_pu rfl) rfl ?_
          refine S_v (r_pickT rfl hg21 rfl) rfl ?_
          refine S_pu 1 rfl ?_
          refine S_seqnil ?_
          refine W_ret ?_
          refine At_seq_ret ?_
          obtain rfl := Option.some.inj h
          refine At_body rfl rfl ?_
          exact ⟨hL18.ext, rfl⟩
        · replace h := Go.L.ite_p (not_dec_f hg21) h
          refine S_unwanted rfl rfl hg21 rfl ?_
          refine S_unwanted rfl rfl hg21 rfl ?_
          refine S_unwanted rfl rfl hg21 rfl ?_
          refine S_v (r_pickF rfl hg21 rfl) rfl ?_
          refine S_pu 1 rfl ?_
          refine S_seqnil ?_
          refine W_ret ?_
          refine At_seq_ret ?_
          obtain rfl := Option.some.inj h
          refine At_body rfl rfl ?_
          exact ⟨hL18.ext, rfl⟩
      · replace h := Go.L.ite_f hg19 h
        refine S_unwanted rfl rfl hg19 rfl ?_
        refine S_unwanted rfl rfl hg19 rfl ?_
        refine S_unwanted rfl rfl hg19 rfl ?_
        refine S_v (r_pickF rfl hg19 rfl) rfl ?_
        refine S_pu 1 rfl ?_
        refine S_unwanted rfl rfl rfl rfl ?_
        refine S_unwanted rfl rfl rfl rfl ?_
        refine S_unwanted rfl rfl rfl rfl ?_
        refine S_v (r_pickF rfl rfl rfl) rfl ?_
        refine S_pu 1 rfl ?_
        refine S_seqnil ?_
        refine W_ret ?_
        refine At_seq_ret ?_
        obtain rfl := Option.some.inj h
        refine At_body rfl rfl ?_
        exact ⟨hL18.ext, rfl⟩
    · replace h := Go.L.ite_p (not_dec_f hg16) h
      refine S_guarded rfl rfl hg16 ?_
      refine S_v (RunsAt_pu rfl) rfl ?_
      refine S_guarded rfl rfl hg16 ?_
      refine S_v (r_lenR (i := 1) rfl Try.underlying23 hL5 rfl) rfl ?_
      refine S_guarded rfl rfl hg16 ?_
      refine S_v (RunsAt_pu rfl) rfl ?_
      refine S_guarded rfl rfl hg16 ?_
      refine S_v (RunsAt_pu rfl) rfl ?_
      refine S_v (r_pickF rfl hg16 rfl) rfl ?_
      refine S_seqnil ?_
      refine W_ifn rfl (fun hc26 => ?_) (fun hc26 => ?_)
      · replace h := Go.L.ite_n hc26 h
        refine W_seqr ?_
        refine S_callL rfl rfl hL5 (opens_l _ _ (gz_le hH hL5) ) ?_
        rintro _ w28 rfl hx28 hL28 hle28
        refine S_pu 1 rfl ?_
        refine S_split (s := 43) rfl (fun hg29 => ?_) (fun hg29 => ?_)
        · replace h := Go.L.ite_t hg29 h
          refine S_guarded rfl rfl hg29 ?_
          refine S_v (r_field rfl Try.underlying25 rfl zr3 (by decide)) rfl ?_
          refine S_guarded rfl rfl hg29 ?_
          refine S_v (r_loadB1 0 rfl Try.underlying3 rfl hL28 rfl rfl) rfl ?_
          refine S_guarded rfl rfl hg29 ?_
          refine S_v (RunsAt_pu rfl) rfl ?_
          refine S_v (r_pickT rfl hg29 rfl) rfl ?_
          refine S_pu 1 rfl ?_
          refine S_split (s := 48) rfl (fun hg31 => ?_) (fun hg31 => ?_)
          · replace h := Go.L.ite_n (not_dec_t hg31) h
            refine S_guarded rfl rfl hg31 ?_
            refine S_v (RunsAt_pu rfl) rfl ?_
            refine S_guarded rfl rfl hg31 ?_
            refine S_v (r_lenR (i := 1) rfl Try.underlying23 hL28 rfl) rfl ?_
            refine S_guarded rfl rfl hg31 ?_
            refine S_v (RunsAt_pu rfl) rfl ?_
            refine S_v (r_pickT rfl hg31 rfl) rfl ?_
            refine S_pu 1 rfl ?_
            refine S_seqnil ?_
            refine W_ret ?_
            refine At_seq_ret ?_
            obtain rfl := Option.some.inj h
            refine At_body rfl rfl ?_
            exact ⟨hL28.ext, rfl⟩
          · replace h := Go.L.ite_p (not_dec_f hg31) h
            refine S_unwanted rfl rfl hg31 rfl ?_
            refine S_unwanted rfl rfl hg31 rfl ?_
            refine S_unwanted rfl rfl hg31 rfl ?_
            refine S_v (r_pickF rfl hg31 rfl) rfl ?_
            refine S_pu 1 rfl ?_
            refine S_seqnil ?_
            refine W_ret ?_
            refine At_seq_ret ?_
            obtain rfl := Option.some.inj h
            refine At_body rfl rfl ?_
            exact ⟨hL28.ext, rfl⟩
        · replace h := Go.L.ite_f hg29 h
          refine S_unwanted rfl rfl hg29 rfl ?_
          refine S_unwanted rfl rfl hg29 rfl ?_
          refine S_unwanted rfl rfl hg29 rfl ?_
          refine S_v (r_pickF rfl hg29 rfl) rfl ?_
          refine S_pu 1 rfl ?_
          refine S_unwanted rfl rfl rfl rfl ?_
          refine S_unwanted rfl rfl rfl rfl ?_
          refine S_unwanted rfl rfl rfl rfl ?_
          refine S_v (r_pickF rfl rfl rfl) rfl ?_
          refine S_pu 1 rfl ?_
          refine S_seqnil ?_
          refine W_ret ?_
          refine At_seq_ret ?_
          obtain rfl := Option.some.inj h
          refine At_body rfl rfl ?_
          exact ⟨hL28.ext, rfl⟩
      · replace h := Go.L.ite_p hc26 h
        refine W_skip ?_
        refine At_seq ?_
        refine W_seqr ?_
        refine S_pu 1 rfl ?_
        obtain ⟨hL36, hle36, he36⟩ := row_nilE (.int .i64) H 3 hL5
        refine S_seqnil ?_
        refine W_cut (σ := (List Int) × Value × (List Value)) (fun (⟨l70, vl70, xsl70⟩ : (List Int) × Value × (List Value)) => [(0, v0_0), (1, .int .i64 a1), (2, .int .i64 a2), (5, v5_0), (13, u2), (15, vl70)]) (fun (⟨l70, vl70, xsl70⟩ : (List Int) × Value × (List Value)) wr => Lcl w ([.row (vl70) 3 1 (l70).length (xsl70), .box b3 [.int .i64 x1.2.1, .int .i64 x1.2.2] 25, .row (u2) 32 2 (x1.1).length (nC Nb.s (x1.1) (vs2))] ++ nT Nb.s 5 (x1.1) (vs2)) wr ∧ Elems (.int .i64) (gz H w wr ([.row (vl70) 3 1 (l70).length (xsl70), .box b3 [.int .i64 x1.2.1, .int .i64 x1.2.2] 25, .row (u2) 32 2 (x1.1).length (nC Nb.s (x1.1) (vs2))] ++ nT Nb.s 5 (x1.1) (vs2))) (l70) (xsl70) ∧ (x1.1).length = (vs2).length ∧ (law4_SharesMendNamesForgers_k1 a0 a1 a2 a5 x1) l70 = some r) ?_ ?_
        · refine W_seqr ?_
          refine S_pu 1 rfl ?_
          refine S_seqnil ?_
          refine W_block ?_
          obtain ⟨n106, h⟩ := Go.L.run_some h
          refine W_loop (σ := (List Int) × Int × Value × (List Value) × Nat) (fun (⟨l104, s16_105, vl104, xsl104, n⟩ : (List Int) × Int × Value × (List Value) × Nat) => [(0, v0_0), (1, .int .i64 a1), (2, .int .i64 a2), (4, .int .i64 a4), (5, v5_0), (13, u2), (15, vl104), (16, .int .i64 s16_105)]) (fun (⟨l104, s16_105, vl104, xsl104, n⟩ : (List Int) × Int × Value × (List Value) × Nat) wr => Lcl w ([.row (vl104) 3 1 (l104).length (xsl104), .box b3 [.int .i64 x1.2.1, .int .i64 x1.2.2] 25, .row (u2) 32 2 (x1.1).length (nC Nb.s (x1.1) (vs2))] ++ nT Nb.s 5 (x1.1) (vs2)) wr ∧ Elems (.int .i64) (gz H w wr ([.row (vl104) 3 1 (l104).length (xsl104), .box b3 [.int .i64 x1.2.1, .int .i64 x1.2.2] 25, .row (u2) 32 2 (x1.1).length (nC Nb.s (x1.1) (vs2))] ++ nT Nb.s 5 (x1.1) (vs2))) (l104) (xsl104) ∧ (x1.1).length = (vs2).length ∧ Go.L.itr (law4_SharesMendNamesForgers_bl2 a0 a1 a2 a4 a5 x1) n (l104, s16_105) = some r) (fun (⟨l104, s16_105, vl104, xsl104, n⟩ : (List Int) × Int × Value × (List Value) × Nat) => n) (([] : List Int), (0 : Int), .slice none 0 0, [], n106) (.cons rfl (.cons rfl (.cons rfl (.cons rfl (.cons rfl (.cons rfl (.cons rfl (.cons rfl (Sub.nil _))))))))) ⟨hL36, he36, hn2, h⟩ ?_
          rintro ⟨l104, s16_105, vl104, xsl104, nn106⟩ wr106 ⟨hL106, hel104, hn106_n2, h⟩
          obtain ⟨n106, e106, rfl, h, hm106⟩ := Go.L.itr_some h
          refine W_seq ?_
          refine W_seqr ?_
          refine S_pu 3 rfl ?_
          refine S_seqnil ?_
          refine W_if rfl (fun hc108 => ?_) (fun hc108 => ?_)
          · replace h := Go.L.ite_p hc108 h
            refine W_skip ?_
            refine At_seq ?_
            refine W_seq ?_
            refine W_block ?_
            refine W_seqr ?_
            refine S_pu 2 rfl ?_
            refine S_v (r_len rfl Try.underlying22 h5_0) rfl ?_
            refine S_pu 2 rfl ?_
            refine S_split (s := 62) rfl (fun hg110 => ?_) (fun hg110 => ?_)
            · replace h := Go.L.ite_p (of_decide_eq_true hg110) h
              refine S_guarded rfl rfl hg110 ?_
              refine S_v (RunsAt_pu rfl) rfl ?_
              refine S_guarded rfl rfl hg110 ?_
              refine S_v (RunsAt_pu rfl) rfl ?_
              refine S_guarded rfl rfl hg110 ?_
              obtain ⟨hk113, h⟩ := Go.L.chk_some h
              refine S_index rfl rfl Try.underlying22 zr5 h5_0 s16_105.toNat (Int.toNat_of_nonneg hk113.1).symm (idx_lt hk113) rfl ?_
              rintro p112 _ rfl hp112
              refine S_guarded rfl rfl hg110 ?_
              refine S_v (r_load1 rfl Try.underlying5 rfl hp112 (hH.trans hL106.arg)) rfl ?_
              refine S_guarded rfl rfl hg110 ?_
              refine S_v (RunsAt_pu rfl) rfl ?_
              refine S_v (r_pickT rfl hg110 rfl) rfl ?_
              refine S_pu 1 rfl ?_
              refine S_split (s := 69) rfl (fun hg114 => ?_) (fun hg114 => ?_)
              · replace h := Go.L.ite_n (not_dec_t hg114) h
                refine S_guarded rfl rfl hg114 ?_
                refine S_v (RunsAt_pu rfl) rfl ?_
                refine S_guarded rfl rfl hg114 ?_
                refine S_v (r_len rfl Try.underlying22 h0_0) rfl ?_
                refine S_guarded rfl rfl hg114 ?_
                refine S_v (RunsAt_pu rfl) rfl ?_
                refine S_v (r_pickT rfl hg114 rfl) rfl ?_
                refine S_pu 1 rfl ?_
                refine S_split (s := 74) rfl (fun hg116 => ?_) (fun hg116 => ?_)
                · replace h := Go.L.ite_p (of_decide_eq_true hg116) h
                  refine S_guarded rfl rfl hg116 ?_
                  refine S_v (RunsAt_pu rfl) rfl ?_
                  refine S_guarded rfl rfl hg116 ?_
                  refine S_v (r_max rfl rfl) rfl ?_
                  refine S_guarded rfl rfl hg116 ?_
                  obtain ⟨x118, hb118, h⟩ := Go.L.bind_some h
                  refine S_callL rfl rfl hL106 (digits_l _ _ (gz_le hH hL106) hb118) ?_
                  rintro u119_0 w119 ⟨_, rfl, hR119_0⟩ hx119 hL119 hle119
                  have hv119_0 := hR119_0.vecG hH hL106 hx119
                  replace hel104 := hel104.mono (gz_mono hH hle119)
                  refine S_guarded rfl rfl hg116 ?_
                  refine S_v (RunsAt_pu rfl) rfl ?_
                  refine S_guarded rfl rfl hg116 ?_
                  obtain ⟨hk120, h⟩ := Go.L.chk_some h
                  refine S_v (r_ar64 rfl rfl rfl hk120) rfl ?_
                  refine S_guarded rfl rfl hg116 ?_
                  obtain ⟨hk122, h⟩ := Go.L.chk_some h
                  refine S_index rfl rfl Try.underlying43 zr3 hv119_0 (((9 : Int) - s16_105).toNat) (Int.toNat_of_nonneg hk122.1).symm (idx_lt hk122) rfl ?_
                  rintro p121 _ rfl hp121
                  refine S_guarded rfl rfl hg116 ?_
                  refine S_v (r_load1 rfl Try.underlying3 rfl hp121 (gz_le hH hL119)) rfl ?_
                  refine S_guarded rfl rfl hg116 ?_
                  refine S_v (RunsAt_pu rfl) rfl ?_
                  refine S_v (r_pickT rfl hg116 rfl) rfl ?_
                  refine S_seqnil ?_
                  refine W_if rfl (fun hc123 => ?_) (fun hc123 => ?_)
                  · replace h := Go.L.ite_p hc123 h
                    refine W_region ?_
                    refine S_pu 2 rfl ?_
                    refine S_litE (r := (.int .i64)) (l := [s16_105]) rfl (fun _ => bsl43_1 _ _) rfl (show 1 ≤ 9223372036854775807 by decide) hH hL119 (.c1 rfl .nil) ?_
                    intro v125 w125 hx125 hL125 hle125 hv125
                    replace hel104 := hel104.mono (gz_mono hH hle125)
                    replace hv119_0 := hv119_0.mono (gz_mono hH hle125)
                    obtain ⟨hk127, h⟩ := Go.L.chk_some h
                    refine S_appE (r := (.int .i64)) (l := l104) (m := [s16_105]) 0 rfl rfl Try.underlying43 zr3 rfl (by decide) rfl hH hL125 rfl hel104 hv125 hk127 ?_
                    intro v126 w126 xs126 hL126 hle126 he126
                    replace hv119_0 := hv119_0.mono (gz_mono hH hle126)
                    replace hv125 := hv125.mono (gz_mono hH hle126)
                    refine S_pu 1 rfl ?_
                    refine S_nil ?_
                    refine At_block ?_
                    refine At_seq ?_
                    refine W_region ?_
                    refine S_pu 1 rfl ?_
                    obtain ⟨hk128, h⟩ := Go.L.chk_some h
                    refine S_v (r_ar64 rfl rfl rfl hk128) rfl ?_
                    refine S_pu 1 rfl ?_
                    refine S_nil ?_
                    have h := Go.L.Nxt.again h hm106
                    refine At_round ((l104 ++ [s16_105]), (s16_105 + (1 : Int)), v126, xs126, n106) (.cons rfl (.cons rfl (.cons rfl (.cons rfl (.cons rfl (.cons rfl (.cons rfl (.cons rfl (Sub.nil _))))))))) ⟨hL126, he126, hn106_n2, h⟩ (Nat.lt_succ_self _)
                  · replace h := Go.L.ite_n hc123 h
                    refine W_skip ?_
                    refine At_block ?_
                    refine At_seq ?_
                    refine W_region ?_
                    refine S_pu 1 rfl ?_
                    obtain ⟨hk130, h⟩ := Go.L.chk_some h
                    refine S_v (r_ar64 rfl rfl rfl hk130) rfl ?_
                    refine S_pu 1 rfl ?_
                    refine S_nil ?_
                    have h := Go.L.Nxt.again h hm106
                    refine At_round (l104, (s16_105 + (1 : Int)), vl104, xsl104, n106) (.cons rfl (.cons rfl (.cons rfl (.cons rfl (.cons rfl (.cons rfl (.cons rfl (.cons rfl (Sub.nil _))))))))) ⟨hL119, hel104, hn106_n2, h⟩ (Nat.lt_succ_self _)
                · replace h := Go.L.ite_n (of_decide_eq_false hg116) h
                  refine S_unwanted rfl rfl hg116 rfl ?_
                  refine S_unwanted rfl rfl hg116 rfl ?_
                  refine S_unwanted rfl rfl hg116 rfl ?_
                  refine S_unwanted rfl rfl hg116 rfl ?_
                  refine S_unwanted rfl rfl hg116 rfl ?_
                  refine S_unwanted rfl rfl hg116 rfl ?_
                  refine S_unwanted rfl rfl hg116 rfl ?_
                  refine S_unwanted rfl rfl hg116 rfl ?_
                  refine S_v (r_pickF rfl hg116 rfl) rfl ?_
                  refine S_seqnil ?_
                  refine W_false rfl ?_
                  refine W_skip ?_
                  refine At_block ?_
                  refine At_seq ?_
                  refine W_region ?_
                  refine S_pu 1 rfl ?_
                  obtain ⟨hk132, h⟩ := Go.L.chk_some h
                  refine S_v (r_ar64 rfl rfl rfl hk132) rfl ?_
                  refine S_pu 1 rfl ?_
                  refine S_nil ?_
                  have h := Go.L.Nxt.again h hm106
                  refine At_round (l104, (s16_105 + (1 : Int)), vl104, xsl104, n106) (.cons rfl (.cons rfl (.cons rfl (.cons rfl (.cons rfl (.cons rfl (.cons rfl (.cons rfl (Sub.nil _))))))))) ⟨hL106, hel104, hn106_n2, h⟩ (Nat.lt_succ_self _)
              · replace h := Go.L.ite_p (not_dec_f hg114) h
                refine S_unwanted rfl rfl hg114 rfl ?_
                refine S_unwanted rfl rfl hg114 rfl ?_
                refine S_unwanted rfl rfl hg114 rfl ?_
                refine S_v (r_pickF rfl hg114 rfl) rfl ?_
                refine S_pu 1 rfl ?_
                refine S_unwanted rfl rfl rfl rfl ?_
                refine S_unwanted rfl rfl rfl rfl ?_
                refine S_unwanted rfl rfl rfl rfl ?_
                refine S_unwanted rfl rfl rfl rfl ?_
                refine S_unwanted rfl rfl rfl rfl ?_
                refine S_unwanted rfl rfl rfl rfl ?_
                refine S_unwanted rfl rfl rfl rfl ?_
                refine S_unwanted rfl rfl rfl rfl ?_
                refine S_v (r_pickF rfl rfl rfl) rfl ?_
                refine S_seqnil ?_
                refine W_false rfl ?_
                refine W_skip ?_
                refine At_block ?_
                refine At_seq ?_
                refine W_region ?_
                refine S_pu 1 rfl ?_
                obtain ⟨hk134, h⟩ := Go.L.chk_some h
                refine S_v (r_ar64 rfl rfl rfl hk134) rfl ?_
                refine S_pu 1 rfl ?_
                refine S_nil ?_
                have h := Go.L.Nxt.again h hm106
                refine At_round (l104, (s16_105 + (1 : Int)), vl104, xsl104, n106) (.cons rfl (.cons rfl (.cons rfl (.cons rfl (.cons rfl (.cons rfl (.cons rfl (.cons rfl (Sub.nil _))))))))) ⟨hL106, hel104, hn106_n2, h⟩ (Nat.lt_succ_self _)
            · replace h := Go.L.ite_n (of_decide_eq_false hg110) h
              refine S_unwanted rfl rfl hg110 rfl ?_
              refine S_unwanted rfl rfl hg110 rfl ?_
              refine S_unwanted rfl rfl hg110 rfl ?_
              refine S_unwanted rfl rfl hg110 rfl ?_
              refine S_unwanted rfl rfl hg110 rfl ?_
              refine S_v (r_pickF rfl hg110 rfl) rfl ?_
              refine S_pu 1 rfl ?_
              refine S_unwanted rfl rfl rfl rfl ?_
              refine S_unwanted rfl rfl rfl rfl ?_
              refine S_unwanted rfl rfl rfl rfl ?_
              refine S_v (r_pickF rfl rfl rfl) rfl ?_
              refine S_pu 1 rfl ?_
              refine S_unwanted rfl rfl rfl rfl ?_
              refine S_unwanted rfl rfl rfl rfl ?_
              refine S_unwanted rfl rfl rfl rfl ?_
              refine S_unwanted rfl rfl rfl rfl ?_
              refine S_unwanted rfl rfl rfl rfl ?_
              refine S_unwanted rfl rfl rfl rfl ?_
              refine S_unwanted rfl rfl rfl rfl ?_
              refine S_unwanted rfl rfl rfl rfl ?_
              refine S_v (r_pickF rfl rfl rfl) rfl ?_
              refine S_seqnil ?_
              refine W_false rfl ?_
              refine W_skip ?_
              refine At_block ?_
              refine At_seq ?_
              refine W_region ?_
              refine S_pu 1 rfl ?_
              obtain ⟨hk136, h⟩ := Go.L.chk_some h
              refine S_v (r_ar64 rfl rfl rfl hk136) rfl ?_
              refine S_pu 1 rfl ?_
              refine S_nil ?_
              have h := Go.L.Nxt.again h hm106
              refine At_round (l104, (s16_105 + (1 : Int)), vl104, xsl104, n106) (.cons rfl (.cons rfl (.cons rfl (.cons rfl (.cons rfl (.cons rfl (.cons rfl (.cons rfl (Sub.nil _))))))))) ⟨hL106, hel104, hn106_n2, h⟩ (Nat.lt_succ_self _)
          · replace h := Go.L.ite_n hc108 h
            refine W_exit ?_
            refine At_seq_exit ?_
            refine At_loop_exit ?_
            replace h := Go.L.Nxt.out h hm106
            refine At_exit ?_
            refine At_cut (l104, vl104, xsl104) (.cons rfl (.cons rfl (.cons rfl (.cons rfl (.cons rfl (.cons rfl (Sub.nil _))))))) ⟨hL106, hel104, hn106_n2, h⟩
        · rintro ⟨l70, vl70, xsl70⟩ wr71 ⟨hL71, hel70, hn71_n2, h⟩
          refine W_seq ?_
          refine W_seqr ?_
          refine S_pu 1 rfl ?_
          refine S_v (r_lenR (i := 0) rfl Try.underlying43 hL71 rfl) rfl ?_
          obtain ⟨hk139, h⟩ := Go.L.chk_some h
          refine S_v (r_ar64 rfl rfl rfl hk139) rfl ?_
          refine S_pu 2 rfl ?_
          obtain ⟨hk140, h⟩ := Go.L.chk_some h
          refine S_v (r_ar64 rfl rfl rfl hk140) rfl ?_
          refine S_pu 1 rfl ?_
          refine S_seqnil ?_
          refine W_if rfl (fun hc141 => ?_) (fun hc141 => ?_)
          · replace h := Go.L.ite_p hc141 h
            refine W_seqr ?_
            refine S_pu 1 rfl ?_
            refine S_seqnil ?_
            refine W_ret ?_
            refine At_seq_ret ?_
            obtain rfl := Option.some.inj h
            refine At_body rfl rfl ?_
            exact ⟨hL71.ext, rfl⟩
          · replace h := Go.L.ite_n hc141 h
            refine W_skip ?_
            refine At_seq ?_
            refine W_cut (σ := (List (Int × (List UInt8))) × (List Value)) (fun (⟨l188, vsl188⟩ : (List (Int × (List UInt8))) × (List Value)) => [(0, v0_0), (1, .int .i64 a1), (13, u2), (15, vl70)]) (fun (⟨l188, vsl188⟩ : (List (Int × (List UInt8))) × (List Value)) wr => Lcl w ([.row (vl70) 3 1 (l70).length (xsl70), .box b3 [.int .i64 x1.2.1, .int .i64 x1.2.2] 25, .row (u2) 32 2 (l188).length (nC Nb.s (l188) (vsl188))] ++ nT Nb.s 5 (l188) (vsl188)) wr ∧ Elems (.int .i64) (gz H w wr ([.row (vl70) 3 1 (l70).length (xsl70), .box b3 [.int .i64 x1.2.1, .int .i64 x1.2.2] 25, .row (u2) 32 2 (l188).length (nC Nb.s (l188) (vsl188))] ++ nT Nb.s 5 (l188) (vsl188))) (l70) (xsl70) ∧ (l188).length = (vsl188).length ∧ (law4_SharesMendNamesForgers_k3 a0 a1 l70) l188 = some r) ?_ ?_
            · refine W_seqr ?_
              refine S_pu 1 rfl ?_
              refine S_seqnil ?_
              refine W_block ?_
              obtain ⟨n235, h⟩ := Go.L.run_some h
              refine W_loop (σ := (List (Int × (List UInt8))) × Int × (List Value) × Nat) (fun (⟨l233, s17_234, vsl233, n⟩ : (List (Int × (List UInt8))) × Int × (List Value) × Nat) => [(0, v0_0), (1, .int .i64 a1), (5, v5_0), (13, u2), (15, vl70), (17, .int .i64 s17_234)]) (fun (⟨l233, s17_234, vsl233, n⟩ : (List (Int × (List UInt8))) × Int × (List Value) × Nat) wr => Lcl w ([.row (vl70) 3 1 (l70).length (xsl70), .box b3 [.int .i64 x1.2.1, .int .i64 x1.2.2] 25, .row (u2) 32 2 (l233).length (nC Nb.s (l233) (vsl233))] ++ nT Nb.s 5 (l233) (vsl233)) wr ∧ Elems (.int .i64) (gz H w wr ([.row (vl70) 3 1 (l70).length (xsl70), .box b3 [.int .i64 x1.2.1, .int .i64 x1.2.2] 25, .row (u2) 32 2 (l233).length (nC Nb.s (l233) (vsl233))] ++ nT Nb.s 5 (l233) (vsl233))) (l70) (xsl70) ∧ (l233).length = (vsl233).length ∧ Go.L.itr (law4_SharesMendNamesForgers_bl4 a0 a1 a5 l70) n (l233, s17_234) = some r) (fun (⟨l233, s17_234, vsl233, n⟩ : (List (Int × (List UInt8))) × Int × (List Value) × Nat) => n) (x1.1, (0 : Int), vs2, n235) (.cons rfl (.cons rfl (.cons rfl (.cons rfl (.cons rfl (.cons rfl (Sub.nil _))))))) ⟨hL71, hel70, hn71_n2, h⟩ ?_
              rintro ⟨l233, s17_234, vsl233, nn235⟩ wr235 ⟨hL235, hel70, hnl233, h⟩
              obtain ⟨n235, e235, rfl, h, hm235⟩ := Go.L.itr_some h
              refine W_seq ?_
              refine W_seqr ?_
              refine S_pu 2 rfl ?_
              refine S_v (r_lenR (i := 0) rfl Try.underlying43 hL235 rfl) rfl ?_
              refine S_pu 1 rfl ?_
              refine S_seqnil ?_
              refine W_if rfl (fun hc237 => ?_) (fun hc237 => ?_)
              · replace h := Go.L.ite_p hc237 h
                refine W_skip ?_
                refine At_seq ?_
                refine W_seq ?_
                refine W_block ?_
                refine W_seq ?_
                refine W_seqr ?_
                refine S_pu 3 rfl ?_
                obtain ⟨hk240, h⟩ := Go.L.chk_some h
                refine S_index rfl rfl Try.underlying43 zr3 (hL235.vecN hH (i := 0) rfl hel70) s17_234.toNat (Int.toNat_of_nonneg hk240.1).symm (idx_lt hk240) rfl ?_
                rintro p239 _ rfl hp239
                refine S_v (r_load1 rfl Try.underlying3 rfl hp239 (Le.refl _)) rfl ?_
                obtain ⟨hk242, h⟩ := Go.L.chk_some h
                refine S_indexQ (N := Nb.s) (e := 5) (A := [.row (vl70) 3 1 (l70).length (xsl70), .box b3 [.int .i64 x1.2.1, .int .i64 x1.2.2] 25, .row (u2) 32 2 (l233).length (nC Nb.s (l233) (vsl233))]) (l := l233) (vs := vsl233) 2 rfl rfl Try.underlying23 zr32 hL235 rfl hnl233 ((l70.getD s17_234.toNat default).toNat) (Int.toNat_of_nonneg hk242.1).symm (idx_lt hk242) rfl ?_
                intro p241 (hp241 : PtrTo (hp wr235) p241 [.int .i64 ((l233.getD ((l70.getD s17_234.toNat default).toNat) default).1), (vsl233.getD ((l70.getD s17_234.toNat default).toNat) default)])
                refine S_v (r_field rfl Try.underlying32 rfl zr22 (by decide)) rfl ?_
                have hp243 := hp241.add 1
                refine S_v (r_load1 rfl Try.underlying22 rfl hp243 (Le.refl _)) rfl ?_
                refine S_v (r_len rfl Try.underlying22 (nest_vec (N := Nb.s) (e := 5) (A := [.row (vl70) 3 1 (l70).length (xsl70), .box b3 [.int .i64 x1.2.1, .int .i64 x1.2.2] 25, .row (u2) 32 2 (l233).length (nC Nb.s (l233) (vsl233))]) (l := l233) (vs := vsl233) hL235 hnl233 ((l70.getD s17_234.toNat default).toNat) (idx_lt hk242))) rfl ?_
                refine S_pu 1 rfl ?_
                refine S_v (r_len rfl Try.underlying22 h0_0) rfl ?_
                refine S_pu 1 rfl ?_
                refine S_seqnil ?_
                refine W_ifn rfl (fun hc244 => ?_) (fun hc244 => ?_)
                · replace h := Go.L.ite_n hc244 h
                  refine W_seqr ?_
                  refine S_pu 1 rfl ?_
                  refine S_seqnil ?_
                  refine W_ret ?_
                  refine At_seq_ret ?_
                  refine At_block_ret ?_
                  refine At_seq_ret ?_
                  refine At_loop_ret ?_
                  replace h := Go.L.Nxt.out h hm235
                  refine At_block_ret ?_
                  refine At_cut_ret ?_
                  obtain rfl := Option.some.inj h
                  refine At_body rfl rfl ?_
                  exact ⟨hL235.ext, rfl⟩
                · replace h := Go.L.ite_p hc244 h
                  refine W_skip ?_
                  refine At_seq ?_
                  refine W_regd (.q 0 (.q 1 (.q 2 (.q 3 (.q 4 (.q 5 (.q 6 (.q 7 (.q 8 (.q 9 (.q 10 (.q 11 (.q 12 (.q 13 (.q 14 (.q 15 (.q 16 (.q 17 (.q 18 (.q 19 (.q 20 (.q 21 (.q 22 (.q 23 (.q 24 (.q 25 (.q 26 (.q 27 (.q 28 (.q 29 (.q 30 (.q 31 (.q 32 (.q 33 (.q 34 (.q 35 (.q 36 (.q 37 (.q 38 (.q 39 (.tail 40))))))))))))))))))))))))))))))))))))))))) mixed (by kernel_rfl) (fun w247 hx247 => ?_)
                  have hL248 := hL235.call hx247
                  have hle248 := fz_ext hL235 hx247
                  replace hel70 := hel70.mono (gz_mono hH hle248)
                  refine D_pu 3 rfl ?_
                  obtain ⟨hk250, h⟩ := Go.L.chk_some h
                  refine D_index rfl rfl rfl Try.underlying43 zr3 (hL248.vecN hH (i := 0) rfl hel70) s17_234.toNat (Int.toNat_of_nonneg hk250.1).symm (idx_lt hk250) rfl ?_
                  rintro p249 _ rfl hp249
                  refine D_v (r_load1 rfl Try.underlying3 rfl hp249 (Le.refl _)) rfl rfl ?_
                  obtain ⟨hk252, h⟩ := Go.L.chk_some h
                  refine D_indexQ (N := Nb.s) (e := 5) (A := [.row (vl70) 3 1 (l70).length (xsl70), .box b3 [.int .i64 x1.2.1, .int .i64 x1.2.2] 25, .row (u2) 32 2 (l233).length (nC Nb.s (l233) (vsl233))]) (l := l233) (vs := vsl233) 2 rfl rfl rfl Try.underlying23 zr32 hL248 rfl hnl233 ((l70.getD s17_234.toNat default).toNat) (Int.toNat_of_nonneg hk252.1).symm (idx_lt hk252) rfl ?_
                  intro p251 (hp251 : PtrTo (hp w247) p251 [.int .i64 ((l233.getD ((l70.getD s17_234.toNat default).toNat) default).1), (vsl233.getD ((l70.getD s17_234.toNat default).toNat) default)])
                  refine D_v (r_field rfl Try.underlying32 rfl zr22 (by decide)) rfl rfl ?_
                  have hp253 := hp251.add 1
                  refine D_v (r_load1 rfl Try.underlying22 rfl hp253 (Le.refl _)) rfl rfl ?_
                  refine D_pu 2 rfl ?_
                  obtain ⟨hk255, h⟩ := Go.L.chk_some h
                  refine D_index rfl rfl rfl Try.underlying43 zr3 (hL248.vecN hH (i := 0) rfl hel70) s17_234.toNat (Int.toNat_of_nonneg hk255.1).symm (idx_lt hk255) rfl ?_
                  rintro p254 _ rfl hp254
                  refine D_v (r_load1 rfl Try.underlying3 rfl hp254 (Le.refl _)) rfl rfl ?_
                  refine D_pu 1 rfl ?_
                  refine D_v (r_len rfl Try.underlying22 h0_0) rfl rfl ?_
                  obtain ⟨hk256, h⟩ := Go.L.chk_some h
                  refine D_v (r_rem rfl rfl ⟨hk256.1, hk256.2.2⟩) rfl rfl ?_
                  refine D_pu 3 rfl ?_
                  obtain ⟨hk258, h⟩ := Go.L.chk_some h
                  refine D_index rfl rfl rfl Try.underlying43 zr3 (hL248.vecN hH (i := 0) rfl hel70) s17_234.toNat (Int.toNat_of_nonneg hk258.1).symm (idx_lt hk258) rfl ?_
                  rintro p257 _ rfl hp257
                  refine D_v (r_load1 rfl Try.underlying3 rfl hp257 (Le.refl _)) rfl rfl ?_
                  obtain ⟨hk260, h⟩ := Go.L.chk_some h
                  refine D_indexQ (N := Nb.s) (e := 5) (A := [.row (vl70) 3 1 (l70).length (xsl70), .box b3 [.int .i64 x1.2.1, .int .i64 x1.2.2] 25, .row (u2) 32 2 (l233).length (nC Nb.s (l233) (vsl233))]) (l := l233) (vs := vsl233) 2 rfl rfl rfl Try.underlying23 zr32 hL248 rfl hnl233 ((l70.getD s17_234.toNat default).toNat) (Int.toNat_of_nonneg hk260.1).symm (idx_lt hk260) rfl ?_
                  intro p259 (hp259 : PtrTo (hp w247) p259 [.int .i64 ((l233.getD ((l70.getD s17_234.toNat default).toNat) default).1), (vsl233.getD ((l70.getD s17_234.toNat default).toNat) default)])
                  refine D_v (r_field rfl Try.underlying32 rfl zr22 (by decide)) rfl rfl ?_
                  have hp261 := hp259.add 1
                  refine D_v (r_load1 rfl Try.underlying22 rfl hp261 (Le.refl _)) rfl rfl ?_
                  refine D_pu 2 rfl ?_
                  obtain ⟨hk263, h⟩ := Go.L.chk_some h
                  refine D_index rfl rfl rfl Try.underlying43 zr3 (hL248.vecN hH (i := 0) rfl hel70) s17_234.toNat (Int.toNat_of_nonneg hk263.1).symm (idx_lt hk263) rfl ?_
                  rintro p262 _ rfl hp262
                  refine D_v (r_load1 rfl Try.underlying3 rfl hp262 (Le.refl _)) rfl rfl ?_
                  refine D_pu 1 rfl ?_
                  refine D_v (r_len rfl Try.underlying22 h0_0) rfl rfl ?_
                  obtain ⟨hk264, h⟩ := Go.L.chk_some h
                  refine D_v (r_rem rfl rfl ⟨hk264.1, hk264.2.2⟩) rfl rfl ?_
                  obtain ⟨hk266, h⟩ := Go.L.chk_some h
                  refine D_index rfl rfl rfl Try.underlying22 zr5 (nest_vec (N := Nb.s) (e := 5) (A := [.row (vl70) 3 1 (l70).length (xsl70), .box b3 [.int .i64 x1.2.1, .int .i64 x1.2.2] 25, .row (u2) 32 2 (l233).length (nC Nb.s (l233) (vsl233))]) (l := l233) (vs := vsl233) hL248 hnl233 ((l70.getD s17_234.toNat default).toNat) (idx_lt hk260)) ((l70.getD s17_234.toNat default % (a0.length : Int)).toNat) (Int.toNat_of_nonneg hk266.1).symm (idx_lt hk266) rfl ?_
                  rintro p265 _ rfl hp265
                  refine D_v (r_load1 rfl Try.underlying5 rfl hp265 (Le.refl _)) rfl rfl ?_
                  refine D_pu 3 rfl ?_
                  obtain ⟨hk268, h⟩ := Go.L.chk_some h
                  refine D_index rfl rfl rfl Try.underlying43 zr3 (hL248.vecN hH (i := 0) rfl hel70) s17_234.toNat (Int.toNat_of_nonneg hk268.1).symm (idx_lt hk268) rfl ?_
                  rintro p267 _ rfl hp267
                  refine D_v (r_load1 rfl Try.underlying3 rfl hp267 (Le.refl _)) rfl rfl ?_
                  obtain ⟨hk270, h⟩ := Go.L.chk_some h
                  refine D_index rfl rfl rfl Try.underlying22 zr5 h5_0 ((l70.getD s17_234.toNat default).toNat) (Int.toNat_of_nonneg hk270.1).symm (idx_lt hk270) rfl ?_
                  rintro p269 _ rfl hp269
                  refine D_v (r_load1 rfl Try.underlying5 rfl hp269 (hH.trans hL248.arg)) rfl rfl ?_
                  refine D_v (r_bit8 rfl rfl rfl) rfl rfl ?_
                  refine D_tail (fun w271 hx271 => ?_)
                  have hL272 := hL248.call hx271
                  have hle272 := fz_ext hL248 hx271
                  replace hel70 := hel70.mono (gz_mono hH hle272)
                  obtain ⟨hk274, h⟩ := Go.L.chk_some h
                  refine S_indexI (N := Nb.s) (e := 5) (A := [.row (vl70) 3 1 (l70).length (xsl70), .box b3 [.int .i64 x1.2.1, .int .i64 x1.2.2] 25, .row (u2) 32 2 (l233).length (nC Nb.s (l233) (vsl233))]) (l := l233) (vs := vsl233) ((l70.getD s17_234.toNat default).toNat) rfl rfl Try.underlying22 zr5 hL272 hnl233 (idx_lt hk252) ((l70.getD s17_234.toNat default % (a0.length : Int)).toNat) (Int.toNat_of_nonneg hk274.1).symm (idx_lt hk274) rfl ?_
                  intro p273 hp273
                  refine S_storeI (N := Nb.s) (e := 5) (l := l233) (vs := vsl233) (fun zl => [.row (vl70) 3 1 (l70).length (xsl70), .box b3 [.int .i64 x1.2.1, .int .i64 x1.2.2] 25, .row (u2) 32 2 zl.length (nC Nb.s zl (vsl233))]) (m := (l70.getD s17_234.toNat default).toNat) (j := (l70.getD s17_234.toNat default % (a0.length : Int)).toNat) (z := (((l233.getD ((l70.getD s17_234.toNat default).toNat) default).2).getD ((l70.getD s17_234.toNat default % (a0.length : Int)).toNat) default ^^^ a5.getD ((l70.getD s17_234.toNat default).toNat) default)) rfl rfl zr5 hL272 hnl233 (fun l' h1 h2 => by simp only [h1, h2]) (idx_lt hk252) hp273 (idx_lt hk274) ?_
                  intro w275 hn275 hL275 hle275
                  replace hel70 := hel70.mono (gz_mono hH hle275)
                  refine S_nil ?_
                  refine At_block ?_
                  refine At_seq ?_
                  refine W_region ?_
                  refine S_pu 1 rfl ?_
                  obtain ⟨hk276, h⟩ := Go.L.chk_some h
                  refine S_v (r_ar64 rfl rfl rfl hk276) rfl ?_
                  refine S_pu 1 rfl ?_
                  refine S_nil ?_
                  have h := Go.L.Nxt.again h hm235
                  refine At_round ((l233.set ((l70.getD s17_234.toNat default).toNat) ((l233.getD ((l70.getD s17_234.toNat default).toNat) default).1, ((l233.getD ((l70.getD s17_234.toNat default).toNat) default).2.set ((l70.getD s17_234.toNat default % (a0.length : Int)).toNat) (((l233.getD ((l70.getD s17_234.toNat default).toNat) default).2).getD ((l70.getD s17_234.toNat default % (a0.length : Int)).toNat) default ^^^ a5.getD ((l70.getD s17_234.toNat default).toNat) default)))), (s17_234 + (1 : Int)), vsl233, n235) (.cons rfl (.cons rfl (.cons rfl (.cons rfl (.cons rfl (.cons rfl (Sub.nil _))))))) ⟨hL275, hel70, hn275, h⟩ (Nat.lt_succ_self _)
              · replace h := Go.L.ite_n hc237 h
                refine W_exit ?_
                refine At_seq_exit ?_
                refine At_loop_exit ?_
                replace h := Go.L.Nxt.out h hm235
                refine At_exit ?_
                refine At_cut (l233, vsl233) (.cons rfl (.cons rfl (.cons rfl (.cons rfl (Sub.nil _))))) ⟨hL235, hel70, hnl233, h⟩
            · rintro ⟨l188, vsl188⟩ wr189 ⟨hL189, hel70, hnl188, h⟩
              refine W_seqr ?_
              refine S_pu 2 rfl ?_
              obtain ⟨hL279, hle279, hv279⟩ := nest_pub (N := Nb.s) (e := 5) (A := [.row (vl70) 3 1 (l70).length (xsl70), .box b3 [.int .i64 x1.2.1, .int .i64 x1.2.2] 25, .row (u2) 32 2 (l188).length (nC Nb.s (l188) (vsl188))]) (l := l188) (vs := vsl188) (r := (.pair (.int .i64) (.vec .byte))) 2 hH (fun _ _ _ h => ⟨_, _, rfl, rfl, _, rfl, h⟩) hnl188 hL189 rfl
              replace hel70 := hel70.mono (gz_mono hH hle279)
              refine S_callL rfl rfl hL279 (mend_l _ _ (gz_le hH hL279) hv279) ?_
              rintro _ w280 ⟨u280_0, u280_1, rfl, hR280_0, hR280_1⟩ hx280 hL280 hle280
              have hv280_0 := hR280_0.mono (gz_nw hH hL279 hx280)
              have hv280_1 := hR280_1.mono (gz_nw hH hL279 hx280)
              replace hel70 := hel70.mono (gz_mono hH hle280)
              replace hv279 := hv279.mono (gz_mono hH hle280)
              refine S_pu 4 rfl ?_
              refine S_alloc zr25 rfl rfl hL280 ?_
              intro w281 b281 hL281 hle281 _
              replace hel70 := hel70.mono (gz_mono hH hle281)
              replace hv279 := hv279.mono (gz_mono hH hle281)
              replace hv280_0 := hv280_0.mono (gz_mono hH hle281)
              replace hv280_1 := hv280_1.mono (gz_mono hH hle281)
              refine S_pu 2 rfl ?_
              refine S_storeBN 0 rfl rfl rfl zr25 hL281 rfl rfl (onc rfl (onc rfl on0)) ?_
              intro w282 hL282 hle282
              replace hel70 := hel70.mono (gz_mono hH hle282)
              replace hv279 := hv279.mono (gz_mono hH hle282)
              replace hv280_0 := hv280_0.mono (gz_mono hH hle282)
              replace hv280_1 := hv280_1.mono (gz_mono hH hle282)
              refine S_seqnil ?_
              refine W_seqr ?_
              refine S_v (r_field rfl Try.underlying25 rfl zr3 (by decide)) rfl ?_
              refine S_v (r_loadB1 0 rfl Try.underlying3 rfl hL282 rfl rfl) rfl ?_
              refine S_pu 2 rfl ?_
              refine S_split (s := 164) rfl (fun hg283 => ?_) (fun hg283 => ?_)
              · replace h := Go.L.ite_p (of_decide_eq_true hg283) h
                refine S_guarded rfl rfl hg283 ?_
                refine S_v (RunsAt_pu rfl) rfl ?_
                refine S_guarded rfl rfl hg283 ?_
                refine S_v (RunsAt_pu rfl) rfl ?_
                refine S_guarded rfl rfl hg283 ?_
                refine S_callL rfl rfl hL282 (same_l _ _ (gz_le hH hL282) hv280_0 (h0_0.mono (gz_left hH))) ?_
                rintro _ w285 rfl hx285 hL285 hle285
                replace hel70 := hel70.mono (gz_mono hH hle285)
                replace hv280_0 := hv280_0.mono (gz_mono hH hle285)
                replace hv280_1 := hv280_1.mono (gz_mono hH hle285)
                refine S_v (r_pickT rfl hg283 rfl) rfl ?_
                refine S_pu 1 rfl ?_
                refine S_split (s := 169) rfl (fun hg286 => ?_) (fun hg286 => ?_)
                · replace h := Go.L.ite_p (of_decide_eq_true hg286) h
                  refine S_guarded rfl rfl hg286 ?_
                  refine S_v (RunsAt_pu rfl) rfl ?_
                  refine S_guarded rfl rfl hg286 ?_
                  refine S_v (RunsAt_pu rfl) rfl ?_
                  refine S_guarded rfl rfl hg286 ?_
                  refine S_callL rfl rfl hL285 (ints_l _ _ (Le.refl _) (hv280_1.mono (gz_le hH hL285)) (hL285.vecN hH (i := 1) rfl hel70)) ?_
                  rintro _ w288 rfl hx288 hL288 hle288
                  replace hel70 := hel70.mono (gz_mono hH hle288)
                  replace hv280_0 := hv280_0.mono (gz_mono hH hle288)
                  replace hv280_1 := hv280_1.mono (gz_mono hH hle288)
                  refine S_v (r_pickT rfl hg286 rfl) rfl ?_
                  refine S_pu 1 rfl ?_
                  refine S_seqnil ?_
                  refine W_ret ?_
                  obtain rfl := Option.some.inj h
                  refine At_body rfl rfl ?_
                  exact ⟨hL288.ext, rfl⟩
                · replace h := Go.L.ite_n (of_decide_eq_false hg286) h
                  refine S_unwanted rfl rfl hg286 rfl ?_
                  refine S_unwanted rfl rfl hg286 rfl ?_
                  refine S_unwanted rfl rfl hg286 rfl ?_
                  refine S_v (r_pickF rfl hg286 rfl) rfl ?_
                  refine S_pu 1 rfl ?_
                  refine S_seqnil ?_
                  refine W_ret ?_
                  obtain rfl := Option.some.inj h
                  refine At_body rfl rfl ?_
                  exact ⟨hL285.ext, rfl⟩
              · replace h := Go.L.ite_n (of_decide_eq_false hg283) h
                refine S_unwanted rfl rfl hg283 rfl ?_
                refine S_unwanted rfl rfl hg283 rfl ?_
                refine S_unwanted rfl rfl hg283 rfl ?_
                refine S_v (r_pickF rfl hg283 rfl) rfl ?_
                refine S_pu 1 rfl ?_
                refine S_unwanted rfl rfl rfl rfl ?_
                refine S_unwanted rfl rfl rfl rfl ?_
                refine S_unwanted rfl rfl rfl rfl ?_
                refine S_v (r_pickF rfl rfl rfl) rfl ?_
                refine S_pu 1 rfl ?_
                refine S_seqnil ?_
                refine W_ret ?_
                obtain rfl := Option.some.inj h
                refine At_body rfl rfl ?_
                exact ⟨hL282.ext, rfl⟩

noncomputable def law4_SharesJoinMatchesSpec_k2 (s6_112 : Bool) : Option (Bool) :=
  some (s6_112)
noncomputable def law4_SharesJoinMatchesSpec_k3 (s6_148 : Bool) : Option (Bool) :=
  some (s6_148)
noncomputable def law4_SharesJoinMatchesSpec_k4 (s6_192 : Bool) : Option (Bool) :=
  some (s6_192)
noncomputable def law4_SharesJoinMatchesSpec_k5 (s6_228 : Bool) : Option (Bool) :=
  some (s6_228)
noncomputable def law4_SharesJoinMatchesSpec_k6 (s6_280 : Bool) : Option (Bool) :=
  some (s6_280)
noncomputable def law4_SharesJoinMatchesSpec_k7 (s6_316 : Bool) : Option (Bool) :=
  some (s6_316)
noncomputable def law4_SharesJoinMatchesSpec_k8 (s6_360 : Bool) : Option (Bool) :=
  some (s6_360)
noncomputable def law4_SharesJoinMatchesSpec_k9 (s6_396 : Bool) : Option (Bool) :=
  some (s6_396)
noncomputable def law4_SharesJoinMatchesSpec_k1 (a0 : List (Int × (List UInt8))) (a1 : Int) (a2 : Int) (c37 : Int) (c38 : Int) (c39 : Int) (c40 : Int) (s13_41 : List (List UInt8)) : Option (Bool) :=
  if !true then some (false) else if ((M.jnF a0 a1)).1 = c39 ∧ ((M.jnF a0 a1)).2 = c40 then if ((M.axF a0 a1 a2)).1 = c37 ∧ ((M.axF a0 a1 a2)).2 = c38 then if c39 = (0 : Int) then if c37 = (0 : Int) then if c39 = (0 : Int) then Option.bind (ref4_Values s13_41 (0 : UInt8)) (fun x338 => if (M.jn a0 a1) = x338 then (if c37 = (0 : Int) then if ((M.axK a0 a1 a2, M.axD a0 a1 a2)).1 = a2 then Option.bind (ref4_Values s13_41 (Go.L.u8 a2)) (fun x370 => law4_SharesJoinMatchesSpec_k8 (decide ((((M.axK a0 a1 a2, M.axD a0 a1 a2)).2) = x370))) else law4_SharesJoinMatchesSpec_k8 false else law4_SharesJoinMatchesSpec_k8 true) else some (false)) else if c37 = (0 : Int) then if ((M.axK a0 a1 a2, M.axD a0 a1 a2)).1 = a2 then Option.bind (ref4_Values s13_41 (Go.L.u8 a2)) (fun x406 => law4_SharesJoinMatchesSpec_k9 (decide ((((M.axK a0 a1 a2, M.axD a0 a1 a2)).2) = x406))) else law4_SharesJoinMatchesSpec_k9 false else law4_SharesJoinMatchesSpec_k9 true else if ((M.axK a0 a1 a2, M.axD a0 a1 a2)).1 = (0 : Int) then if (0 : Int) < ((((M.axK a0 a1 a2, M.axD a0 a1 a2)).2).length : Int) then some (false) else (if c39 = (0 : Int) then Option.bind (ref4_Values s13_41 (0 : UInt8)) (fun x258 => if (M.jn a0 a1) = x258 then (if c37 = (0 : Int) then if ((M.axK a0 a1 a2, M.axD a0 a1 a2)).1 = a2 then Option.bind (ref4_Values s13_41 (Go.L.u8 a2)) (fun x290 => law4_SharesJoinMatchesSpec_k6 (decide ((((M.axK a0 a1 a2, M.axD a0 a1 a2)).2) = x290))) else law4_SharesJoinMatchesSpec_k6 false else law4_SharesJoinMatchesSpec_k6 true) else some (false)) else if c37 = (0 : Int) then if ((M.axK a0 a1 a2, M.axD a0 a1 a2)).1 = a2 then Option.bind (ref4_Values s13_41 (Go.L.u8 a2)) (fun x326 => law4_SharesJoinMatchesSpec_k7 (decide ((((M.axK a0 a1 a2, M.axD a0 a1 a2)).2) = x326))) else law4_SharesJoinMatchesSpec_k7 false else law4_SharesJoinMatchesSpec_k7 true) else some (false) else if (0 : Int) < ((M.jn a0 a1).length : Int) then some (false) else if c37 = (0 : Int) then if c39 = (0 : Int) then Option.bind (ref4_Values s13_41 (0 : UInt8)) (fun x170 => if (M.jn a0 a1) = x170 then (if c37 = (0 : Int) then if ((M.axK a0 a1 a2, M.axD a0 a1 a2)).1 = a2 then Option.bind (ref4_Values s13_41 (Go.L.u8 a2)) (fun x202 => law4_SharesJoinMatchesSpec_k4 (decide ((((M.axK a0 a1 a2, M.axD a0 a1 a2)).2) = x202))) else law4_SharesJoinMatchesSpec_k4 false else law4_SharesJoinMatchesSpec_k4 true) else some (false)) else if c37 = (0 : Int) then if ((M.axK a0 a1 a2, M.axD a0 a1 a2)).1 = a2 then Option.bind (ref4_Values s13_41 (Go.L.u8 a2)) (fun x238 => law4_SharesJoinMatchesSpec_k5 (decide ((((M.axK a0 a1 a2, M.axD a0 a1 a2)).2) = x238))) else law4_SharesJoinMatchesSpec_k5 false else law4_SharesJoinMatchesSpec_k5 true else if ((M.axK a0 a1 a2, M.axD a0 a1 a2)).1 = (0 : Int) then if (0 : Int) < ((((M.axK a0 a1 a2, M.axD a0 a1 a2)).2).length : Int) then some (false) else (if c39 = (0 : Int) then Option.bind (ref4_Values s13_41 (0 : UInt8)) (fun x90 => if (M.jn a0 a1) = x90 then (if c37 = (0 : Int) then if ((M.axK a0 a1 a2, M.axD a0 a1 a2)).1 = a2 then Option.bind (ref4_Values s13_41 (Go.L.u8 a2)) (fun x122 => law4_SharesJoinMatchesSpec_k2 (decide ((((M.axK a0 a1 a2, M.axD a0 a1 a2)).2) = x122))) else law4_SharesJoinMatchesSpec_k2 false else law4_SharesJoinMatchesSpec_k2 true) else some (false)) else if c37 = (0 : Int) then if ((M.axK a0 a1 a2, M.axD a0 a1 a2)).1 = a2 then Option.bind (ref4_Values s13_41 (Go.L.u8 a2)) (fun x158 => law4_SharesJoinMatchesSpec_k3 (decide ((((M.axK a0 a1 a2, M.axD a0 a1 a2)).2) = x158))) else law4_SharesJoinMatchesSpec_k3 false else law4_SharesJoinMatchesSpec_k3 true) else some (false) else some (false) else some (false)
noncomputable def law4_SharesJoinMatchesSpec (a0 : List (Int × (List UInt8))) (a1 : Int) (a2 : Int) : Option (Bool) :=
  Option.bind (ref4_EnoughFault a0 a1) (fun x9 => if x9.1 = (0 : Int) then Go.L.chk (0 ≤ a1 ∧ a1 ≤ (a0.length : Int)) (Option.bind (ref4_Polynomials (a0.take a1.toNat)) (fun x48 => Option.bind (ref4_Forged a0 x48) (fun x50 => if (0 : Int) < (x50.length : Int) then Go.L.chk (0 ≤ (0 : Int) ∧ (0 : Int) < (x50.length : Int)) (if ((M.rgF (x9.1, x9.2) a2 (1 : Int) (10 : Int) (-3 : Int))).1 = (0 : Int) then (law4_SharesJoinMatchesSpec_k1 a0 a1 a2) ((((19 : Int), (x50.getD ((0 : Int).toNat) default))).1) ((((19 : Int), (x50.getD ((0 : Int).toNat) default))).2) ((((19 : Int), (x50.getD ((0 : Int).toNat) default))).1) ((((19 : Int), (x50.getD ((0 : Int).toNat) default))).2) x48 else (law4_SharesJoinMatchesSpec_k1 a0 a1 a2) (((M.rgF (x9.1, x9.2) a2 (1 : Int) (10 : Int) (-3 : Int))).1) (((M.rgF (x9.1, x9.2) a2 (1 : Int) (10 : Int) (-3 : Int))).2) ((((19 : Int), (x50.getD ((0 : Int).toNat) default))).1) ((((19 : Int), (x50.getD ((0 : Int).toNat) default))).2) x48) else (law4_SharesJoinMatchesSpec_k1 a0 a1 a2) (((M.rgF (x9.1, x9.2) a2 (1 : Int) (10 : Int) (-3 : Int))).1) (((M.rgF (x9.1, x9.2) a2 (1 : Int) (10 : Int) (-3 : Int))).2) x9.1 x9.2 x48))) else (law4_SharesJoinMatchesSpec_k1 a0 a1 a2) (((M.rgF (x9.1, x9.2) a2 (1 : Int) (10 : Int) (-3 : Int))).1) (((M.rgF (x9.1, x9.2) a2 (1 : Int) (10 : Int) (-3 : Int))).2) x9.1 x9.2 ([]))

set_option maxRecDepth 10000 in
theorem law4_SharesJoinMatchesSpec_ok (w : World) (H : PH) (hH : Le H (hp w)) {a0 : List (Int × (List UInt8))} {a1 : Int} {a2 : Int} {v0_0 : Value} (h0_0 : Vec (.pair (.int .i64) (.vec .byte)) H v0_0 (a0)) {r : Bool} (h : law4_SharesJoinMatchesSpec a0 a1 a2 = some r) :
    Ok Try.prog 4 [v0_0, .int .i64 a1, .int .i64 a2] w (fun v w' => Ext w w' ∧ v = .bool r) := by
  refine Ok_enter (n := 121) [(0, v0_0), (1, .int .i64 a1), (2, .int .i64 a2)] Try.func4 rfl rfl rfl rfl rfl ?_
  have hL := Lcl.start w
  refine W_seqr ?_
  refine S_pu 1 rfl ?_
  refine S_seqnil ?_
  refine W_seqr ?_
  refine S_pu 2 rfl ?_
  refine S_callL rfl rfl hL (join_l _ _ (gz_le hH hL) (h0_0.mono (gz_left hH))) ?_
  rintro _ w1 ⟨u1_0, rfl, hR1_0⟩ hx1 hL1 hle1
  have hv1_0 := hR1_0.vecG hH hL hx1
  refine S_pu 3 rfl ?_
  refine S_alloc zr25 rfl rfl hL1 ?_
  intro w2 b2 hL2 hle2 _
  replace hv1_0 := hv1_0.mono (gz_mono hH hle2)
  refine S_pu 1 rfl ?_
  refine S_storeBN 0 rfl rfl rfl zr25 hL2 rfl rfl (onc rfl (onc rfl on0)) ?_
  intro w3 hL3 hle3
  replace hv1_0 := hv1_0.mono (gz_mono hH hle3)
  refine S_seqnil ?_
  refine W_seqr ?_
  refine S_pu 3 rfl ?_
  refine S_callL rfl rfl hL3 (sat_l _ _ (gz_le hH hL3) (h0_0.mono (gz_left hH))) ?_
  rintro _ w4 ⟨u4_0, rfl, hR4_0⟩ hx4 hL4 hle4
  have hv4_0 := hR4_0.vecG hH hL3 hx4
  replace hv1_0 := hv1_0.mono (gz_mono hH hle4)
  refine S_pu 3 rfl ?_
  refine S_alloc zr32 rfl rfl hL4 ?_
  intro w5 b5 hL5 hle5 _
  replace hv1_0 := hv1_0.mono (gz_mono hH hle5)
  replace hv4_0 := hv4_0.mono (gz_mono hH hle5)
  refine S_alloc zr25 rfl rfl hL5 ?_
  intro w6 b6 hL6 hle6 _
  replace hv1_0 := hv1_0.mono (gz_mono hH hle6)
  replace hv4_0 := hv4_0.mono (gz_mono hH hle6)
  refine S_storeBN 1 rfl rfl rfl zr32 hL6 rfl rfl (onc rfl (onc hv4_0.one on0)) ?_
  intro w7 hL7 hle7
  replace hv1_0 := hv1_0.mono (gz_mono hH hle7)
  replace hv4_0 := hv4_0.mono (gz_mono hH hle7)
  refine S_storeBN 0 rfl rfl rfl zr25 hL7 rfl rfl (onc rfl (onc rfl on0)) ?_
  intro w8 hL8 hle8
  replace hv1_0 := hv1_0.mono (gz_mono hH hle8)
  replace hv4_0 := hv4_0.mono (gz_mono hH hle8)
  refine S_seqnil ?_
  refine W_seqr ?_
  refine S_pu 2 rfl ?_
  obtain ⟨x9, hb9, h⟩ := Go.L.bind_some h
  refine S_callL rfl rfl hL8 (ref4_EnoughFault_ok _ _ (gz_le hH hL8) (h0_0.mono (gz_left hH)) hb9) ?_
  rintro _ w10 rfl hx10 hL10 hle10
  replace hv1_0 := hv1_0.mono (gz_mono hH hle10)
  replace hv4_0 := hv4_0.mono (gz_mono hH hle10)
  refine S_alloc zr25 rfl rfl hL10 ?_
  intro w11 b11 hL11 hle11 _
  replace hv1_0 := hv1_0.mono (gz_mono hH hle11)
  replace hv4_0 := hv4_0.mono (gz_mono hH hle11)
  refine S_storeBN 0 rfl rfl rfl zr25 hL11 rfl rfl (onc rfl (onc rfl on0)) ?_
  intro w12 hL12 hle12
  replace hv1_0 := hv1_0.mono (gz_mono hH hle12)
  replace hv4_0 := hv4_0.mono (gz_mono hH hle12)
  refine S_seqnil ?_
  refine W_seqr ?_
  refine S_v (r_loadBN 0 rfl Try.underlying25 rfl zr25 hL12 rfl) rfl ?_
  refine S_pu 1 rfl ?_
  refine S_callL rfl rfl hL12 (range_l _ _ (gz_le hH hL12) ) ?_
  rintro _ w13 rfl hx13 hL13 hle13
  replace hv1_0 := hv1_0.mono (gz_mono hH hle13)
  replace hv4_0 := hv4_0.mono (gz_mono hH hle13)
  refine S_alloc zr25 rfl rfl hL13 ?_
  intro w14 b14 hL14 hle14 _
  replace hv1_0 := hv1_0.mono (gz_mono hH hle14)
  replace hv4_0 := hv4_0.mono (gz_mono hH hle14)
  refine S_storeBN 0 rfl rfl rfl zr25 hL14 rfl rfl (onc rfl (onc rfl on0)) ?_
  intro w15 hL15 hle15
  replace hv1_0 := hv1_0.mono (gz_mono hH hle15)
  replace hv4_0 := hv4_0.mono (gz_mono hH hle15)
  refine S_seqnil ?_
  refine W_seqr ?_
  refine S_pu 1 rfl ?_
  refine S_seqnil ?_
  refine W_cut (σ := Int × Int × Int × Int × (List (List UInt8)) × Value) (fun (⟨c37, c38, c39, c40, s13_41, vs13_41⟩ : Int × Int × Int × Int × (List (List UInt8)) × Value) => [(2, .int .i64 a2), (7, u1_0), (8, .pointer (some ⟨b2, 0, none⟩)), (9, .pointer (some ⟨b5, 0, none⟩)), (10, .pointer (some ⟨b6, 0, none⟩)), (11, .pointer (some ⟨b11, 0, none⟩)), (12, .pointer (some ⟨b14, 0, none⟩)), (13, vs13_41)]) (fun (⟨c37, c38, c39, c40, s13_41, vs13_41⟩ : Int × Int × Int × Int × (List (List UInt8)) × Value) wr => Lcl w [.box b14 [.int .i64 c37, .int .i64 c38] 25, .box b11 [.int .i64 c39, .int .i64 c40] 25, .box b6 [.int .i64 (((M.axF a0 a1 a2)).1), .int .i64 (((M.axF a0 a1 a2)).2)] 25, .box b5 [.int .i64 (((M.axK a0 a1 a2, M.axD a0 a1 a2)).1), u4_0] 32, .box b2 [.int .i64 (((M.jnF a0 a1)).1), .int .i64 (((M.jnF a0 a1)).2)] 25] wr ∧ Vec .byte (gz H w wr [.box b14 [.int .i64 c37, .int .i64 c38] 25, .box b11 [.int .i64 c39, .int .i64 c40] 25, .box b6 [.int .i64 (((M.axF a0 a1 a2)).1), .int .i64 (((M.axF a0 a1 a2)).2)] 25, .box b5 [.int .i64 (((M.axK a0 a1 a2, M.axD a0 a1 a2)).1), u4_0] 32, .box b2 [.int .i64 (((M.jnF a0 a1)).1), .int .i64 (((M.jnF a0 a1)).2)] 25]) (u1_0) ((M.jn a0 a1)) ∧ Vec (.vec .byte) (gz H w wr [.box b14 [.int .i64 c37, .int .i64 c38] 25, .box b11 [.int .i64 c39, .int .i64 c40] 25, .box b6 [.int .i64 (((M.axF a0 a1 a2)).1), .int .i64 (((M.axF a0 a1 a2)).2)] 25, .box b5 [.int .i64 (((M.axK a0 a1 a2, M.axD a0 a1 a2)).1), u4_0] 32, .box b2 [.int .i64 (((M.jnF a0 a1)).1), .int .i64 (((M.jnF a0 a1)).2)] 25]) (vs13_41) (s13_41) ∧ Vec .byte (gz H w wr [.box b14 [.int .i64 c37, .int .i64 c38] 25, .box b11 [.int .i64 c39, .int .i64 c40] 25, .box b6 [.int .i64 (((M.axF a0 a1 a2)).1), .int .i64 (((M.axF a0 a1 a2)).2)] 25, .box b5 [.int .i64 (((M.axK a0 a1 a2, M.axD a0 a1 a2)).1), u4_0] 32, .box b2 [.int .i64 (((M.jnF a0 a1)).1), .int .i64 (((M.jnF a0 a1)).2)] 25]) (u4_0) (((M.axK a0 a1 a2, M.axD a0 a1 a2)).2) ∧ (law4_SharesJoinMatchesSpec_k1 a0 a1 a2) c37 c38 c39 c40 s13_41 = some r) ?_ ?_
  · refine W_seqr ?_
    refine S_v (r_field rfl Try.underlying25 rfl zr3 (by decide)) rfl ?_
    refine S_v (r_loadB1 1 rfl Try.underlying3 rfl hL15 rfl rfl) rfl ?_
    refine S_pu 1 rfl ?_
    refine S_seqnil ?_
    refine W_if rfl (fun hc44 => ?_) (fun hc44 => ?_)
    · replace h := Go.L.ite_p hc44 h
      refine W_seqr ?_
      refine S_pu 2 rfl ?_
      obtain ⟨hk47, h⟩ := Go.L.chk_some h
      refine S_sliceH rfl rfl Try.underlying23 zr32 h0_0 hk47 rfl ?_
      intro v46 hv46
      obtain ⟨x48, hb48, h⟩ := Go.L.bind_some h
      refine S_callL rfl rfl hL15 (ref4_Polynomials_ok _ _ (gz_le hH hL15) (hv46.mono (gz_left hH)) hb48) ?_
      rintro u49_0 w49 ⟨_, rfl, hR49_0⟩ hx49 hL49 hle49
      have hv49_0 := hR49_0.vecG hH hL15 hx49
      replace hv1_0 := hv1_0.mono (gz_mono hH hle49)
      replace hv4_0 := hv4_0.mono (gz_mono hH hle49)
      refine S_pu 1 rfl ?_
      refine S_seqnil ?_
      refine W_seqr ?_
      refine S_pu 2 rfl ?_
      obtain ⟨x50, hb50, h⟩ := Go.L.bind_some h
      refine S_callL rfl rfl hL49 (ref4_Forged_ok _ _ (gz_le hH hL49) (h0_0.mono (gz_left hH)) hv49_0 hb50) ?_
      rintro u51_0 w51 ⟨_, rfl, hR51_0⟩ hx51 hL51 hle51
      have hv51_0 := hR51_0.vecG hH hL49 hx51
      replace hv1_0 := hv1_0.mono (gz_mono hH hle51)
      replace hv4_0 := hv4_0.mono (gz_mono hH hle51)
      replace hv49_0 := hv49_0.mono (gz_mono hH hle51)
      refine S_pu 1 rfl ?_
      refine S_seqnil ?_
      refine W_seqr ?_
      refine S_pu 1 rfl ?_
      refine S_v (r_len rfl Try.underlying43 hv51_0) rfl ?_
      refine S_pu 1 rfl ?_
      refine S_seqnil ?_
      refine W_if rfl (fun hc52 => ?_) (fun hc52 => ?_)
      · replace h := Go.L.ite_p hc52 h
        refine W_seqr ?_
        refine S_pu 1 rfl ?_
        obtain ⟨hk55, h⟩ := Go.L.chk_some h
        refine S_index rfl rfl Try.underlying43 zr3 hv51_0 ((0 : Int).toNat) (Int.toNat_of_nonneg hk55.1).symm (idx_lt hk55) rfl ?_
        rintro p54 _ rfl hp54
        refine S_v (r_load1 rfl Try.underlying3 rfl hp54 (gz_le hH hL51)) rfl ?_
        refine S_callL rfl rfl hL51 (rat_l _ _ (gz_le hH hL51) ) ?_
        rintro _ w56 rfl hx56 hL56 hle56
        replace hv1_0 := hv1_0.mono (gz_mono hH hle56)
        replace hv4_0 := hv4_0.mono (gz_mono hH hle56)
        replace hv49_0 := hv49_0.mono (gz_mono hH hle56)
        replace hv51_0 := hv51_0.mono (gz_mono hH hle56)
        replace hp54 := hp54.mono (gz_mono hH hle56)
        refine S_storeBN 1 rfl rfl rfl zr25 hL56 rfl rfl (onc rfl (onc rfl on0)) ?_
        intro w57 hL57 hle57
        replace hv1_0 := hv1_0.mono (gz_mono hH hle57)
        replace hv4_0 := hv4_0.mono (gz_mono hH hle57)
        replace hv49_0 := hv49_0.mono (gz_mono hH hle57)
        replace hv51_0 := hv51_0.mono (gz_mono hH hle57)
        replace hp54 := hp54.mono (gz_mono hH hle57)
        refine S_seqnil ?_
        refine W_seqr ?_
        refine S_v (r_field rfl Try.underlying25 rfl zr3 (by decide)) rfl ?_
        refine S_v (r_loadB1 0 rfl Try.underlying3 rfl hL57 rfl rfl) rfl ?_
        refine S_pu 1 rfl ?_
        refine S_seqnil ?_
        refine W_if rfl (fun hc58 => ?_) (fun hc58 => ?_)
        · replace h := Go.L.ite_p hc58 h
          refine W_region ?_
          refine S_v (r_loadBN 1 rfl Try.underlying25 rfl zr25 hL57 rfl) rfl ?_
          refine S_storeBN 0 rfl rfl rfl zr25 hL57 rfl rfl (onc rfl (onc rfl on0)) ?_
          intro w60 hL60 hle60
          replace hv1_0 := hv1_0.mono (gz_mono hH hle60)
          replace hv4_0 := hv4_0.mono (gz_mono hH hle60)
          replace hv49_0 := hv49_0.mono (gz_mono hH hle60)
          refine S_nil ?_
          refine At_cut ((((19 : Int), (x50.getD ((0 : Int).toNat) default))).1, (((19 : Int), (x50.getD ((0 : Int).toNat) default))).2, (((19 : Int), (x50.getD ((0 : Int).toNat) default))).1, (((19 : Int), (x50.getD ((0 : Int).toNat) default))).2, x48, u49_0) (.cons rfl (.cons rfl (.cons rfl (.cons rfl (.cons rfl (.cons rfl (.cons rfl (.cons rfl (Sub.nil _))))))))) ⟨hL60, hv1_0, hv49_0, hv4_0, h⟩
        · replace h := Go.L.ite_n hc58 h
          refine W_skip ?_
          refine At_cut (((M.rgF (x9.1, x9.2) a2 (1 : Int) (10 : Int) (-3 : Int))).1, ((M.rgF (x9.1, x9.2) a2 (1 : Int) (10 : Int) (-3 : Int))).2, (((19 : Int), (x50.getD ((0 : Int).toNat) default))).1, (((19 : Int), (x50.getD ((0 : Int).toNat) default))).2, x48, u49_0) (.cons rfl (.cons rfl (.cons rfl (.cons rfl (.cons rfl (.cons rfl (.cons rfl (.cons rfl (Sub.nil _))))))))) ⟨hL57, hv1_0, hv49_0, hv4_0, h⟩
      · replace h := Go.L.ite_n hc52 h
        refine W_skip ?_
        refine At_cut (((M.rgF (x9.1, x9.2) a2 (1 : Int) (10 : Int) (-3 : Int))).1, ((M.rgF (x9.1, x9.2) a2 (1 : Int) (10 : Int) (-3 : Int))).2, x9.1, x9.2, x48, u49_0) (.cons rfl (.cons rfl (.cons rfl (.cons rfl (.cons rfl (.cons rfl (.cons rfl (.cons rfl (Sub.nil _))))))))) ⟨hL51, hv1_0, hv49_0, hv4_0, h⟩
    · replace h := Go.L.ite_n hc44 h
      refine W_skip ?_
      refine At_cut (((M.rgF (x9.1, x9.2) a2 (1 : Int) (10 : Int) (-3 : Int))).1, ((M.rgF (x9.1, x9.2) a2 (1 : Int) (10 : Int) (-3 : Int))).2, x9.1, x9.2, [], .slice none 0 0) (.cons rfl (.cons rfl (.cons rfl (.cons rfl (.cons rfl (.cons rfl (.cons rfl (.cons rfl (Sub.nil _))))))))) ⟨hL15, hv1_0, (Vec.nil _ _), hv4_0, h⟩
  · rintro ⟨c37, c38, c39, c40, s13_41, vs13_41⟩ wr42 ⟨hL42, hf42_0, hfs13_41, hf42_2, h⟩
    refine W_seq ?_
    refine W_seqr ?_
    refine S_callL rfl rfl hL42 (opens_l _ _ (gz_le hH hL42) ) ?_
    rintro _ w65 rfl hx65 hL65 hle65
    replace hf42_0 := hf42_0.mono (gz_mono hH hle65)
    replace hfs13_41 := hfs13_41.mono (gz_mono hH hle65)
    replace hf42_2 := hf42_2.mono (gz_mono hH hle65)
    refine S_pu 2 rfl ?_
    refine S_split (s := 57) rfl (fun hg66 => ?_) (fun hg66 => ?_)
    · replace h := Go.L.ite_t hg66 h
      refine S_unwanted rfl rfl hg66 rfl ?_
      refine S_unwanted rfl rfl hg66 rfl ?_
      refine S_unwanted rfl rfl hg66 rfl ?_
      refine S_v (r_pickT rfl hg66 rfl) rfl ?_
      refine S_pu 1 rfl ?_
      refine S_unwanted rfl rfl rfl rfl ?_
      refine S_unwanted rfl rfl rfl rfl ?_
      refine S_unwanted rfl rfl rfl rfl ?_
      refine S_v (r_pickT rfl rfl rfl) rfl ?_
      refine S_pu 1 rfl ?_
      refine S_unwanted rfl rfl rfl rfl ?_
      refine S_unwanted rfl rfl rfl rfl ?_
      refine S_unwanted rfl rfl rfl rfl ?_
      refine S_unwanted rfl rfl rfl rfl ?_
      refine S_unwanted2 rfl rfl rfl ?_
      refine S_unwanted2 rfl rfl rfl ?_
      refine S_unwanted2 rfl rfl rfl ?_
      refine S_unwanted rfl rfl rfl rfl ?_
      refine S_v (r_pickT rfl rfl rfl) rfl ?_
      refine S_pu 1 rfl ?_
      refine S_unwanted rfl rfl rfl rfl ?_
      refine S_unwanted rfl rfl rfl rfl ?_
      refine S_unwanted rfl rfl rfl rfl ?_
      refine S_unwanted rfl rfl rfl rfl ?_
      refine S_unwanted2 rfl rfl rfl ?_
      refine S_unwanted2 rfl rfl rfl ?_
      refine S_unwanted2 rfl rfl rfl ?_
      refine S_unwanted2 rfl rfl rfl ?_
      refine S_unwanted2 rfl rfl rfl ?_
      refine S_unwanted2 rfl rfl rfl ?_
      refine S_unwanted2 rfl rfl rfl ?_
      refine S_unwanted2 rfl rfl rfl ?_
      refine S_unwanted2 rfl rfl rfl ?_
      refine S_unwanted rfl rfl rfl rfl ?_
      refine S_v (r_pickT rfl rfl rfl) rfl ?_
      refine S_seqnil ?_
      refine W_true rfl ?_
      refine W_seqr ?_
      refine S_pu 1 rfl ?_
      refine S_seqnil ?_
      refine W_ret ?_
      refine At_seq_ret ?_
      obtain rfl := Option.some.inj h
      refine At_body rfl rfl ?_
      exact ⟨hL65.ext, rfl⟩
    · replace h := Go.L.ite_f hg66 h
      refine S_guarded rfl rfl hg66 ?_
      refine S_v (r_loadBN 4 rfl Try.underlying25 rfl zr25 hL65 rfl) rfl ?_
      refine S_guarded rfl rfl hg66 ?_
      refine S_v (r_loadBN 1 rfl Try.underlying25 rfl zr25 hL65 rfl) rfl ?_
      refine S_guarded rfl rfl hg66 ?_
      refine S_v (r_neA rfl rfl eqg25 (eq25 _ _ _ _ )) rfl ?_
      refine S_v (r_pickF rfl hg66 rfl) rfl ?_
      refine S_pu 1 rfl ?_
      refine S_split (s := 62) rfl (fun hg69 => ?_) (fun hg69 => ?_)
      · replace h := Go.L.ite_n (not_dec_t hg69) h
        refine S_unwanted rfl rfl hg69 rfl ?_
        refine S_unwanted rfl rfl hg69 rfl ?_
        refine S_unwanted rfl rfl hg69 rfl ?_
        refine S_v (r_pickT rfl hg69 rfl) rfl ?_
        refine S_pu 1 rfl ?_
        refine S_unwanted rfl rfl rfl rfl ?_
        refine S_unwanted rfl rfl rfl rfl ?_
        refine S_unwanted rfl rfl rfl rfl ?_
        refine S_unwanted rfl rfl rfl rfl ?_
        refine S_unwanted2 rfl rfl rfl ?_
        refine S_unwanted2 rfl rfl rfl ?_
        refine S_unwanted2 rfl rfl rfl ?_
        refine S_unwanted rfl rfl rfl rfl ?_
        refine S_v (r_pickT rfl rfl rfl) rfl ?_
        refine S_pu 1 rfl ?_
        refine S_unwanted rfl rfl rfl rfl ?_
        refine S_unwanted rfl rfl rfl rfl ?_
        refine S_unwanted rfl rfl rfl rfl ?_
        refine S_unwanted rfl rfl rfl rfl ?_
        refine S_unwanted2 rfl rfl rfl ?_
        refine S_unwanted2 rfl rfl rfl ?_
        refine S_unwanted2 rfl rfl rfl ?_
        refine S_unwanted2 rfl rfl rfl ?_
        refine S_unwanted2 rfl rfl rfl ?_
        refine S_unwanted2 rfl rfl rfl ?_
        refine S_unwanted2 rfl rfl rfl ?_
        refine S_unwanted2 rfl rfl rfl ?_
        refine S_unwanted2 rfl rfl rfl ?_
        refine S_unwanted rfl rfl rfl rfl ?_
        refine S_v (r_pickT rfl rfl rfl) rfl ?_
        refine S_seqnil ?_
        refine W_true rfl ?_
        refine W_seqr ?_
        refine S_pu 1 rfl ?_
        refine S_seqnil ?_
        refine W_ret ?_
        refine At_seq_ret ?_
        obtain rfl := Option.some.inj h
        refine At_body rfl rfl ?_
        exact ⟨hL65.ext, rfl⟩
      · replace h := Go.L.ite_p (not_dec_f hg69) h
        refine S_guarded rfl rfl hg69 ?_
        refine S_v (r_loadBN 2 rfl Try.underlying25 rfl zr25 hL65 rfl) rfl ?_
        refine S_guarded rfl rfl hg69 ?_
        refine S_v (r_loadBN 0 rfl Try.underlying25 rfl zr25 hL65 rfl) rfl ?_
        refine S_guarded rfl rfl hg69 ?_
        refine S_v (r_neA rfl rfl eqg25 (eq25 _ _ _ _ )) rfl ?_
        refine S_v (r_pickF rfl hg69 rfl) rfl ?_
        refine S_pu 1 rfl ?_
        refine S_split (s := 67) rfl (fun hg72 => ?_) (fun hg72 => ?_)
        · replace h := Go.L.ite_n (not_dec_t hg72) h
          refine S_unwanted rfl rfl hg72 rfl ?_
          refine S_unwanted rfl rfl hg72 rfl ?_
          refine S_unwanted rfl rfl hg72 rfl ?_
          refine S_unwanted rfl rfl hg72 rfl ?_
          refine S_unwanted2 rfl rfl rfl ?_
          refine S_unwanted2 rfl rfl rfl ?_
          refine S_unwanted2 rfl rfl rfl ?_
          refine S_unwanted rfl rfl hg72 rfl ?_
          refine S_v (r_pickT rfl hg72 rfl) rfl ?_
          refine S_pu 1 rfl ?_
          refine S_unwanted rfl rfl rfl rfl ?_
          refine S_unwanted rfl rfl rfl rfl ?_
          refine S_unwanted rfl rfl rfl rfl ?_
          refine S_unwanted rfl rfl rfl rfl ?_
          refine S_unwanted2 rfl rfl rfl ?_
          refine S_unwanted2 rfl rfl rfl ?_
          refine S_unwanted2 rfl rfl rfl ?_
          refine S_unwanted2 rfl rfl rfl ?_
          refine S_unwanted2 rfl rfl rfl ?_
          refine S_unwanted2 rfl rfl rfl ?_
          refine S_unwanted2 rfl rfl rfl ?_
          refine S_unwanted2 rfl rfl rfl ?_
          refine S_unwanted2 rfl rfl rfl ?_
          refine S_unwanted rfl rfl rfl rfl ?_
          refine S_v (r_pickT rfl rfl rfl) rfl ?_
          refine S_seqnil ?_
          refine W_true rfl ?_
          refine W_seqr ?_
          refine S_pu 1 rfl ?_
          refine S_seqnil ?_
          refine W_ret ?_
          refine At_seq_ret ?_
          obtain rfl := Option.some.inj h
          refine At_body rfl rfl ?_
          exact ⟨hL65.ext, rfl⟩
        · replace h := Go.L.ite_p (not_dec_f hg72) h
          refine S_guarded rfl rfl hg72 ?_
          refine S_v (r_field rfl Try.underlying25 rfl zr3 (by decide)) rfl ?_
          refine S_guarded rfl rfl hg72 ?_
          refine S_v (r_loadB1 1 rfl Try.underlying3 rfl hL65 rfl rfl) rfl ?_
          refine S_guarded rfl rfl hg72 ?_
          refine S_v (RunsAt_pu rfl) rfl ?_
          refine S_guarded rfl rfl hg72 ?_
          refine S_v (RunsAt_pu rfl) rfl ?_
          refine S_split (s := 71) rfl (fun hg75 => ?_) (fun hg75 => ?_)
          · replace h := Go.L.ite_n (not_dec_t hg75) h
            refine S_guarded rfl rfl hg75 ?_
            refine S_v (RunsAt_pu rfl) rfl ?_
            refine S_guarded rfl rfl hg75 ?_
            refine S_v (r_len rfl Try.underlying22 hf42_0) rfl ?_
            refine S_guarded rfl rfl hg75 ?_
            refine S_v (RunsAt_pu rfl) rfl ?_
            refine S_guarded rfl rfl hg72 ?_
            refine S_v (r_pickT rfl hg75 rfl) rfl ?_
            refine S_v (r_pickF rfl hg72 rfl) rfl ?_
            refine S_pu 1 rfl ?_
            refine S_split (s := 77) rfl (fun hg77 => ?_) (fun hg77 => ?_)
            · replace h := Go.L.ite_p (of_decide_eq_true hg77) h
              refine S_unwanted rfl rfl hg77 rfl ?_
              refine S_unwanted rfl rfl hg77 rfl ?_
              refine S_unwanted rfl rfl hg77 rfl ?_
              refine S_unwanted rfl rfl hg77 rfl ?_
              refine S_unwanted2 rfl rfl rfl ?_
              refine S_unwanted2 rfl rfl rfl ?_
              refine S_unwanted2 rfl rfl rfl ?_
              refine S_unwanted2 rfl rfl rfl ?_
              refine S_unwanted2 rfl rfl rfl ?_
              refine S_unwanted2 rfl rfl rfl ?_
              refine S_unwanted2 rfl rfl rfl ?_
              refine S_unwanted2 rfl rfl rfl ?_
              refine S_unwanted2 rfl rfl rfl ?_
              refine S_unwanted rfl rfl hg77 rfl ?_
              refine S_v (r_pickT rfl hg77 rfl) rfl ?_
              refine S_seqnil ?_
              refine W_true rfl ?_
              refine W_seqr ?_
              refine S_pu 1 rfl ?_
              refine S_seqnil ?_
              refine W_ret ?_
              refine At_seq_ret ?_
              obtain rfl := Option.some.inj h
              refine At_body rfl rfl ?_
              exact ⟨hL65.ext, rfl⟩
            · replace h := Go.L.ite_n (of_decide_eq_false hg77) h
              refine S_guarded rfl rfl hg77 ?_
              refine S_v (r_field rfl Try.underlying25 rfl zr3 (by decide)) rfl ?_
              refine S_guarded rfl rfl hg77 ?_
              refine S_v (r_loadB1 0 rfl Try.underlying3 rfl hL65 rfl rfl) rfl ?_
              refine S_guarded rfl rfl hg77 ?_
              refine S_v (RunsAt_pu rfl) rfl ?_
              refine S_guarded rfl rfl hg77 ?_
              refine S_v (RunsAt_pu rfl) rfl ?_
              refine S_split (s := 81) rfl (fun hg80 => ?_) (fun hg80 => ?_)
              · replace h := Go.L.ite_n (not_dec_t hg80) h
                refine S_guarded rfl rfl hg80 ?_
                refine S_v (r_field rfl Try.underlying32 rfl zr3 (by decide)) rfl ?_
                refine S_guarded rfl rfl hg80 ?_
                refine S_v (r_loadB1 3 rfl Try.underlying3 rfl hL65 rfl rfl) rfl ?_
                refine S_guarded rfl rfl hg80 ?_
                refine S_v (RunsAt_pu rfl) rfl ?_
                refine S_guarded rfl rfl hg80 ?_
                refine S_v (RunsAt_pu rfl) rfl ?_
                refine S_split (s := 85) rfl (fun hg82 => ?_) (fun hg82 => ?_)
                · replace h := Go.L.ite_n (not_dec_t hg82) h
                  refine S_unwanted rfl rfl hg82 rfl ?_
                  refine S_unwanted rfl rfl hg82 rfl ?_
                  refine S_unwanted rfl rfl hg82 rfl ?_
                  refine S_unwanted rfl rfl hg82 rfl ?_
                  refine S_guarded rfl rfl hg80 ?_
                  refine S_v (r_pickT rfl hg82 rfl) rfl ?_
                  refine S_guarded rfl rfl hg77 ?_
                  refine S_v (r_pickT rfl hg80 rfl) rfl ?_
                  refine S_v (r_pickF rfl hg77 rfl) rfl ?_
                  refine S_seqnil ?_
                  refine W_true rfl ?_
                  refine W_seqr ?_
                  refine S_pu 1 rfl ?_
                  refine S_seqnil ?_
                  refine W_ret ?_
                  refine At_seq_ret ?_
                  obtain rfl := Option.some.inj h
                  refine At_body rfl rfl ?_
                  exact ⟨hL65.ext, rfl⟩
                · replace h := Go.L.ite_p (not_dec_f hg82) h
                  refine S_guarded rfl rfl hg82 ?_
                  refine S_v (r_field rfl Try.underlying32 rfl zr22 (by decide)) rfl ?_
                  refine S_guarded rfl rfl hg82 ?_
                  refine S_v (r_loadB1 3 rfl Try.underlying22 rfl hL65 rfl rfl) rfl ?_
                  refine S_guarded rfl rfl hg82 ?_
                  refine S_v (r_len rfl Try.underlying22 hf42_2) rfl ?_
                  refine S_guarded rfl rfl hg82 ?_
                  refine S_v (RunsAt_pu rfl) rfl ?_
                  refine S_guarded rfl rfl hg80 ?_
                  refine S_v (r_pickF rfl hg82 rfl) rfl ?_
                  refine S_guarded rfl rfl hg77 ?_
                  refine S_v (r_pickT rfl hg80 rfl) rfl ?_
                  refine S_v (r_pickF rfl hg77 rfl) rfl ?_
                  refine S_seqnil ?_
                  refine W_if rfl (fun hc85 => ?_) (fun hc85 => ?_)
                  · replace h := Go.L.ite_p hc85 h
                    refine W_seqr ?_
                    refine S_pu 1 rfl ?_
                    refine S_seqnil ?_
                    refine W_ret ?_
                    refine At_seq_ret ?_
                    obtain rfl := Option.some.inj h
                    refine At_body rfl rfl ?_
                    exact ⟨hL65.ext, rfl⟩
                  · replace h := Go.L.ite_n hc85 h
                    refine W_skip ?_
                    refine At_seq ?_
                    refine W_seq ?_
                    refine W_seqr ?_
                    refine S_v (r_field rfl Try.underlying25 rfl zr3 (by decide)) rfl ?_
                    refine S_v (r_loadB1 1 rfl Try.underlying3 rfl hL65 rfl rfl) rfl ?_
                    refine S_pu 2 rfl ?_
                    refine S_split (s := 96) rfl (fun hg88 => ?_) (fun hg88 => ?_)
                    · replace h := Go.L.ite_p (of_decide_eq_true hg88) h
                      refine S_guarded rfl rfl hg88 ?_
                      refine S_v (RunsAt_pu rfl) rfl ?_
                      refine S_guarded rfl rfl hg88 ?_
                      refine S_v (RunsAt_pu rfl) rfl ?_
                      refine S_guarded rfl rfl hg88 ?_
                      obtain ⟨x90, hb90, h⟩ := Go.L.bind_some h
                      have hok91 := ref4_Values_ok _ _ (gz_le hH hL65) hfs13_41 hb90
                      rw [show (((0 : UInt8).toNat : Nat) : Int) = 0 from rfl] at hok91
                      refine S_callL rfl rfl hL65 hok91 ?_
                      rintro u91_0 w91 ⟨_, rfl, hR91_0⟩ hx91 hL91 hle91
                      have hv91_0 := hR91_0.vecG hH hL65 hx91
                      replace hf42_0 := hf42_0.mono (gz_mono hH hle91)
                      replace hfs13_41 := hfs13_41.mono (gz_mono hH hle91)
                      replace hf42_2 := hf42_2.mono (gz_mono hH hle91)
                      refine S_guarded rfl rfl hg88 ?_
                      refine S_callL rfl rfl hL91 (same_l _ _ (gz_le hH hL91) hf42_0 hv91_0) ?_
                      rintro _ w92 rfl hx92 hL92 hle92
                      replace hf42_0 := hf42_0.mono (gz_mono hH hle92)
                      replace hfs13_41 := hfs13_41.mono (gz_mono hH hle92)
                      replace hf42_2 := hf42_2.mono (gz_mono hH hle92)
                      replace hv91_0 := hv91_0.mono (gz_mono hH hle92)
                      refine S_guarded rfl rfl hg88 ?_
                      refine S_v (RunsAt_pu rfl) rfl ?_
                      refine S_v (r_pickT rfl hg88 rfl) rfl ?_
                      refine S_seqnil ?_
                      refine W_ifn rfl (fun hc93 => ?_) (fun hc93 => ?_)
                      · replace h := Go.L.ite_n hc93 h
                        refine W_seqr ?_
                        refine S_pu 1 rfl ?_
                        refine S_seqnil ?_
                        refine W_ret ?_
                        refine At_seq_ret ?_
                        obtain rfl := Option.some.inj h
                        refine At_body rfl rfl ?_
                        exact ⟨hL92.ext, rfl⟩
                      · replace h := Go.L.ite_p hc93 h
                        refine W_skip ?_
                        refine At_seq ?_
                        refine W_cut (σ := Bool) (fun (s6_112 : Bool) => [(6, .bool s6_112)]) (fun (s6_112 : Bool) wr => Lcl w [.box b14 [.int .i64 c37, .int .i64 c38] 25, .box b11 [.int .i64 c39, .int .i64 c40] 25, .box b6 [.int .i64 (((M.axF a0 a1 a2)).1), .int .i64 (((M.axF a0 a1 a2)).2)] 25, .box b5 [.int .i64 (((M.axK a0 a1 a2, M.axD a0 a1 a2)).1), u4_0] 32, .box b2 [.int .i64 (((M.jnF a0 a1)).1), .int .i64 (((M.jnF a0 a1)).2)] 25] wr ∧ Vec .byte (gz H w wr [.box b14 [.int .i64 c37, .int .i64 c38] 25, .box b11 [.int .i64 c39, .int .i64 c40] 25, .box b6 [.int .i64 (((M.axF a0 a1 a2)).1), .int .i64 (((M.axF a0 a1 a2)).2)] 25, .box b5 [.int .i64 (((M.axK a0 a1 a2, M.axD a0 a1 a2)).1), u4_0] 32, .box b2 [.int .i64 (((M.jnF a0 a1)).1), .int .i64 (((M.jnF a0 a1)).2)] 25]) (u4_0) (((M.axK a0 a1 a2, M.axD a0 a1 a2)).2) ∧ law4_SharesJoinMatchesSpec_k2 s6_112 = some r) ?_ ?_
                        · refine W_naive mixed rfl (fun w115 hx115 => ?_)
                          have hL116 := hL92.call hx115
                          have hle116 := fz_ext hL92 hx115
                          replace hfs13_41 := hfs13_41.mono (gz_mono hH hle116)
                          replace hf42_2 := hf42_2.mono (gz_mono hH hle116)
                          refine N1 (i := 0) (by kernel_rfl) rfl ?_
                          refine S_v (r_field rfl Try.underlying25 rfl zr3 (by decide)) rfl ?_
                          refine N_nil ?_
                          refine N1 (i := 1) (by kernel_rfl) rfl ?_
                          refine S_v (r_loadB1 0 rfl Try.underlying3 rfl hL116 rfl rfl) rfl ?_
                          refine N_nil ?_
                          refine N_hoist 2 (np_cut np_body) (by kernel_rfl) rfl (fun _ => RunsAt_pu rfl) rfl ?_
                          refine N_hoist 3 (np_cut np_body) (by kernel_rfl) rfl (fun _ => RunsAt_pu rfl) rfl ?_
                          refine N_split (s := 106) rfl (fun hg117 => ?_) (fun hg117 => ?_)
                          · replace h := Go.L.ite_n (not_dec_t hg117) h
                            refine N_no 4 (np_cut np_body) (by kernel_rfl) rfl rfl rfl rfl hg117 rfl ?_
                            refine N_no 5 (np_cut np_body) (by kernel_rfl) rfl rfl rfl rfl hg117 rfl ?_
                            refine N_no 6 (np_cut np_body) (by kernel_rfl) rfl rfl rfl rfl hg117 rfl ?_
                            refine N_no 7 (np_cut np_body) (by kernel_rfl) rfl rfl rfl rfl hg117 rfl ?_
                            refine N_no 8 (np_cut np_body) (by kernel_rfl) rfl rfl rfl rfl hg117 rfl ?_
                            refine N_no2 9 (np_cut np_body) (by kernel_rfl) rfl rfl rfl rfl rfl ?_
                            refine N_no2 10 (np_cut np_body) (by kernel_rfl) rfl rfl rfl rfl rfl ?_
                            refine N_no2 11 (np_cut np_body) (by kernel_rfl) rfl rfl rfl rfl rfl ?_
                            refine N_no2 12 (np_cut np_body) (by kernel_rfl) rfl rfl rfl rfl rfl ?_
                            refine N_no2 13 (np_cut np_body) (by kernel_rfl) rfl rfl rfl rfl rfl ?_
                            refine N_no2 14 (np_cut np_body) (by kernel_rfl) rfl rfl rfl rfl rfl ?_
                            refine N_no2 15 (np_cut np_body) (by kernel_rfl) rfl rfl rfl rfl rfl ?_
                            refine N_no 16 (np_cut np_body) (by kernel_rfl) rfl rfl rfl rfl hg117 rfl ?_
                            refine N_hoist 17 (np_cut np_body) (by kernel_rfl) rfl (fun _ => r_pickT rfl hg117 rfl) rfl ?_
                            refine N_hoist 18 (np_cut np_body) (by kernel_rfl) rfl (fun _ => RunsAt_pu rfl) rfl ?_
                            refine N_end (by kernel_rfl) ?_
                            refine At_cut true (.cons rfl (Sub.nil _)) ⟨hL116, hf42_2, h⟩
                          · replace h := Go.L.ite_p (not_dec_f hg117) h
                            refine N_hoistg 6 (np_cut np_body) (by kernel_rfl) rfl rfl rfl rfl hg117 (fun _ => RunsAt_pu rfl) rfl ?_
                            refine N1 (i := 4) (by kernel_rfl) rfl ?_
                            refine S_guarded rfl rfl hg117 ?_
                            refine S_v (r_field rfl Try.underlying32 rfl zr3 (by decide)) rfl ?_
                            refine N_nil ?_
                            refine N1 (i := 5) (by kernel_rfl) rfl ?_
                            refine S_guarded rfl rfl hg117 ?_
                            refine S_v (r_loadB1 3 rfl Try.underlying3 rfl hL116 rfl rfl) rfl ?_
                            refine N_nil ?_
                            refine N_hoistg 7 (np_cut np_body) (by kernel_rfl) rfl rfl rfl rfl hg117 (fun _ => RunsAt_pu rfl) rfl ?_
                            refine N_hoistg 8 (np_cut np_body) (by kernel_rfl) rfl rfl rfl rfl hg117 (fun _ => RunsAt_pu rfl) rfl ?_
                            refine N_split (s := 111) rfl (fun hg120 => ?_) (fun hg120 => ?_)
                            · replace h := Go.L.ite_p (of_decide_eq_true hg120) h
                              refine N_hoistg 11 (np_cut np_body) (by kernel_rfl) rfl rfl rfl rfl hg120 (fun _ => RunsAt_pu rfl) rfl ?_
                              refine N_hoistg 12 (np_cut np_body) (by kernel_rfl) rfl rfl rfl rfl hg120 (fun _ => RunsAt_pu rfl) rfl ?_
                              refine N_hoistg 13 (np_cut np_body) (by kernel_rfl) rfl rfl rfl rfl hg120 (fun _ => r_conv Try.underlying3 Try.underlying5 rfl (conv_64_u8 _)) rfl ?_
                              refine N2 (i := 9) (j := 14) (by kernel_rfl) rfl rfl ?_ ?_
                              · refine S_guarded rfl rfl hg120 ?_
                                refine S_v (r_field rfl Try.underlying32 rfl zr22 (by decide)) rfl ?_
                                refine N_nil ?_
                                refine N2 (i := 10) (j := 14) (by kernel_rfl) rfl rfl ?_ ?_
                                · refine S_guarded rfl rfl hg120 ?_
                                  refine S_v (r_loadB1 3 rfl Try.underlying22 rfl hL116 rfl rfl) rfl ?_
                                  refine N_nil ?_
                                  refine N1 (i := 14) (by kernel_rfl) rfl ?_
                                  refine S_guarded rfl rfl hg120 ?_
                                  obtain ⟨x122, hb122, h⟩ := Go.L.bind_some h
                                  refine S_callL rfl rfl hL116 (ref4_Values_ok _ _ (gz_le hH hL116) hfs13_41 hb122) ?_
                                  rintro u123_0 w123 ⟨_, rfl, hR123_0⟩ hx123 hL123 hle123
                                  have hv123_0 := hR123_0.vecG hH hL116 hx123
                                  replace hfs13_41 := hfs13_41.mono (gz_mono hH hle123)
                                  replace hf42_2 := hf42_2.mono (gz_mono hH hle123)
                                  refine N_nil ?_
                                  refine N1 (i := 15) (by kernel_rfl) rfl ?_
                                  refine S_guarded rfl rfl hg120 ?_
                                  refine S_callL rfl rfl hL123 (same_l _ _ (gz_le hH hL123) hf42_2 hv123_0) ?_
                                  rintro _ w124 rfl hx124 hL124 hle124
                                  replace hfs13_41 := hfs13_41.mono (gz_mono hH hle124)
                                  replace hf42_2 := hf42_2.mono (gz_mono hH hle124)
                                  replace hv123_0 := hv123_0.mono (gz_mono hH hle124)
                                  refine N_nil ?_
                                  refine N_hoistg 16 (np_cut np_body) (by kernel_rfl) rfl rfl rfl rfl hg117 (fun _ => r_pickT rfl hg120 rfl) rfl ?_
                                  refine N_hoist 17 (np_cut np_body) (by kernel_rfl) rfl (fun _ => r_pickF rfl hg117 rfl) rfl ?_
                                  refine N_hoist 18 (np_cut np_body) (by kernel_rfl) rfl (fun _ => RunsAt_pu rfl) rfl ?_
                                  refine N_end (by kernel_rfl) ?_
                                  refine At_cut (decide ((((M.axK a0 a1 a2, M.axD a0 a1 a2)).2) = x122)) (.cons rfl (Sub.nil _)) ⟨hL124, hf42_2, h⟩
                                · obtain ⟨x122, hb122, h⟩ := Go.L.bind_some h
                                  refine S_guarded rfl rfl hg120 ?_
                                  refine S_callL rfl rfl hL116 (ref4_Values_ok _ _ (gz_le hH hL116) hfs13_41 hb122) ?_
                                  rintro u125_0 w125 ⟨_, rfl, hR125_0⟩ hx125 hL125 hle125
                                  have hv125_0 := hR125_0.vecG hH hL116 hx125
                                  replace hfs13_41 := hfs13_41.mono (gz_mono hH hle125)
                                  replace hf42_2 := hf42_2.mono (gz_mono hH hle125)
                                  refine N_nil ?_
                                  refine N1 (i := 10) (by kernel_rfl) rfl ?_
                                  refine S_guarded rfl rfl hg120 ?_
                                  refine S_v (r_loadB1 3 rfl Try.underlying22 rfl hL125 rfl rfl) rfl ?_
                                  refine N_nil ?_
                                  refine N1 (i := 15) (by kernel_rfl) rfl ?_
                                  refine S_guarded rfl rfl hg120 ?_
                                  refine S_callL rfl rfl hL125 (same_l _ _ (gz_le hH hL125) hf42_2 hv125_0) ?_
                                  rintro _ w126 rfl hx126 hL126 hle126
                                  replace hfs13_41 := hfs13_41.mono (gz_mono hH hle126)
                                  replace hf42_2 := hf42_2.mono (gz_mono hH hle126)
                                  replace hv125_0 := hv125_0.mono (gz_mono hH hle126)
                                  refine N_nil ?_
                                  refine N_hoistg 16 (np_cut np_body) (by kernel_rfl) rfl rfl rfl rfl hg117 (fun _ => r_pickT rfl hg120 rfl) rfl ?_
                                  refine N_hoist 17 (np_cut np_body) (by kernel_rfl) rfl (fun _ => r_pickF rfl hg117 rfl) rfl ?_
                                  refine N_hoist 18 (np_cut np_body) (by kernel_rfl) rfl (fun _ => RunsAt_pu rfl) rfl ?_
                                  refine N_end (by kernel_rfl) ?_
                                  refine At_cut (decide ((((M.axK a0 a1 a2, M.axD a0 a1 a2)).2) = x122)) (.cons rfl (Sub.nil _)) ⟨hL126, hf42_2, h⟩
                              · obtain ⟨x122, hb122, h⟩ := Go.L.bind_some h
                                refine S_guarded rfl rfl hg120 ?_
                                refine S_callL rfl rfl hL116 (ref4_Values_ok _ _ (gz_le hH hL116) hfs13_41 hb122) ?_
                                rintro u127_0 w127 ⟨_, rfl, hR127_0⟩ hx127 hL127 hle127
                                have hv127_0 := hR127_0.vecG hH hL116 hx127
                                replace hfs13_41 := hfs13_41.mono (gz_mono hH hle127)
                                replace hf42_2 := hf42_2.mono (gz_mono hH hle127)
                                refine N_nil ?_
                                refine N1 (i := 9) (by kernel_rfl) rfl ?_
                                refine S_guarded rfl rfl hg120 ?_
                                refine S_v (r_field rfl Try.underlying32 rfl zr22 (by decide)) rfl ?_
                                refine N_nil ?_
                                refine N1 (i := 10) (by kernel_rfl) rfl ?_
                                refine S_guarded rfl rfl hg120 ?_
                                refine S_v (r_loadB1 3 rfl Try.underlying22 rfl hL127 rfl rfl) rfl ?_
                                refine N_nil ?_
                                refine N1 (i := 15) (by kernel_rfl) rfl ?_
                                refine S_guarded rfl rfl hg120 ?_
                                refine S_callL rfl rfl hL127 (same_l _ _ (gz_le hH hL127) hf42_2 hv127_0) ?_
                                rintro _ w128 rfl hx128 hL128 hle128
                                replace hfs13_41 := hfs13_41.mono (gz_mono hH hle128)
                                replace hf42_2 := hf42_2.mono (gz_mono hH hle128)
                                replace hv127_0 := hv127_0.mono (gz_mono hH hle128)
                                refine N_nil ?_
                                refine N_hoistg 16 (np_cut np_body) (by kernel_rfl) rfl rfl rfl rfl hg117 (fun _ => r_pickT rfl hg120 rfl) rfl ?_
                                refine N_hoist 17 (np_cut np_body) (by kernel_rfl) rfl (fun _ => r_pickF rfl hg117 rfl) rfl ?_
                                refine N_hoist 18 (np_cut np_body) (by kernel_rfl) rfl (fun _ => RunsAt_pu rfl) rfl ?_
                                refine N_end (by kernel_rfl) ?_
                                refine At_cut (decide ((((M.axK a0 a1 a2, M.axD a0 a1 a2)).2) = x122)) (.cons rfl (Sub.nil _)) ⟨hL128, hf42_2, h⟩
                            · replace h := Go.L.ite_n (of_decide_eq_false hg120) h
                              refine N_no 9 (np_cut np_body) (by kernel_rfl) rfl rfl rfl rfl hg120 rfl ?_
                              refine N_no 10 (np_cut np_body) (by kernel_rfl) rfl rfl rfl rfl hg120 rfl ?_
                              refine N_no 11 (np_cut np_body) (by kernel_rfl) rfl rfl rfl rfl hg120 rfl ?_
                              refine N_no 12 (np_cut np_body) (by kernel_rfl) rfl rfl rfl rfl hg120 rfl ?_
                              refine N_no 13 (np_cut np_body) (by kernel_rfl) rfl rfl rfl rfl hg120 rfl ?_
                              refine N_no 14 (np_cut np_body) (by kernel_rfl) rfl rfl rfl rfl hg120 rfl ?_
                              refine N_no 15 (np_cut np_body) (by kernel_rfl) rfl rfl rfl rfl hg120 rfl ?_
                              refine N_hoistg 16 (np_cut np_body) (by kernel_rfl) rfl rfl rfl rfl hg117 (fun _ => r_pickF rfl hg120 rfl) rfl ?_
                              refine N_hoist 17 (np_cut np_body) (by kernel_rfl) rfl (fun _ => r_pickF rfl hg117 rfl) rfl ?_
                              refine N_hoist 18 (np_cut np_body) (by kernel_rfl) rfl (fun _ => RunsAt_pu rfl) rfl ?_
                              refine N_end (by kernel_rfl) ?_
                              refine At_cut false (.cons rfl (Sub.nil _)) ⟨hL116, hf42_2, h⟩
                        · rintro s6_112 wr113 ⟨hL113, hf113_0, h⟩
                          refine W_ret ?_
                          obtain rfl := Option.some.inj h
                          refine At_body rfl rfl ?_
                          exact ⟨hL113.ext, rfl⟩
                    · replace h := Go.L.ite_n (of_decide_eq_false hg88) h
                      refine S_unwanted rfl rfl hg88 rfl ?_
                      refine S_unwanted rfl rfl hg88 rfl ?_
                      refine S_unwanted rfl rfl hg88 rfl ?_
                      refine S_unwanted rfl rfl hg88 rfl ?_
                      refine S_unwanted rfl rfl hg88 rfl ?_
                      refine S_v (r_pickF rfl hg88 rfl) rfl ?_
                      refine S_seqnil ?_
                      refine W_false rfl ?_
                      refine W_skip ?_
                      refine At_seq ?_
                      refine W_cut (σ := Bool) (fun (s6_148 : Bool) => [(6, .bool s6_148)]) (fun (s6_148 : Bool) wr => Lcl w [.box b14 [.int .i64 c37, .int .i64 c38] 25, .box b11 [.int .i64 c39, .int .i64 c40] 25, .box b6 [.int .i64 (((M.axF a0 a1 a2)).1), .int .i64 (((M.axF a0 a1 a2)).2)] 25, .box b5 [.int .i64 (((M.axK a0 a1 a2, M.axD a0 a1 a2)).1), u4_0] 32, .box b2 [.int .i64 (((M.jnF a0 a1)).1), .int .i64 (((M.jnF a0 a1)).2)] 25] wr ∧ Vec .byte (gz H w wr [.box b14 [.int .i64 c37, .int .i64 c38] 25, .box b11 [.int .i64 c39, .int .i64 c40] 25, .box b6 [.int .i64 (((M.axF a0 a1 a2)).1), .int .i64 (((M.axF a0 a1 a2)).2)] 25, .box b5 [.int .i64 (((M.axK a0 a1 a2, M.axD a0 a1 a2)).1), u4_0] 32, .box b2 [.int .i64 (((M.jnF a0 a1)).1), .int .i64 (((M.jnF a0 a1)).2)] 25]) (u4_0) (((M.axK a0 a1 a2, M.axD a0 a1 a2)).2) ∧ law4_SharesJoinMatchesSpec_k3 s6_148 = some r) ?_ ?_
                      · refine W_naive mixed rfl (fun w151 hx151 => ?_)
                        have hL152 := hL65.call hx151
                        have hle152 := fz_ext hL65 hx151
                        replace hfs13_41 := hfs13_41.mono (gz_mono hH hle152)
                        replace hf42_2 := hf42_2.mono (gz_mono hH hle152)
                        refine N1 (i := 0) (by kernel_rfl) rfl ?_
                        refine S_v (r_field rfl Try.underlying25 rfl zr3 (by decide)) rfl ?_
                        refine N_nil ?_
                        refine N1 (i := 1) (by kernel_rfl) rfl ?_
                        refine S_v (r_loadB1 0 rfl Try.underlying3 rfl hL152 rfl rfl) rfl ?_
                        refine N_nil ?_
                        refine N_hoist 2 (np_cut np_body) (by kernel_rfl) rfl (fun _ => RunsAt_pu rfl) rfl ?_
                        refine N_hoist 3 (np_cut np_body) (by kernel_rfl) rfl (fun _ => RunsAt_pu rfl) rfl ?_
                        refine N_split (s := 106) rfl (fun hg153 => ?_) (fun hg153 => ?_)
                        · replace h := Go.L.ite_n (not_dec_t hg153) h
                          refine N_no 4 (np_cut np_body) (by kernel_rfl) rfl rfl rfl rfl hg153 rfl ?_
                          refine N_no 5 (np_cut np_body) (by kernel_rfl) rfl rfl rfl rfl hg153 rfl ?_
                          refine N_no 6 (np_cut np_body) (by kernel_rfl) rfl rfl rfl rfl hg153 rfl ?_
                          refine N_no 7 (np_cut np_body) (by kernel_rfl) rfl rfl rfl rfl hg153 rfl ?_
                          refine N_no 8 (np_cut np_body) (by kernel_rfl) rfl rfl rfl rfl hg153 rfl ?_
                          refine N_no2 9 (np_cut np_body) (by kernel_rfl) rfl rfl rfl rfl rfl ?_
                          refine N_no2 10 (np_cut np_body) (by kernel_rfl) rfl rfl rfl rfl rfl ?_
                          refine N_no2 11 (np_cut np_body) (by kernel_rfl) rfl rfl rfl rfl rfl ?_
                          refine N_no2 12 (np_cut np_body) (by kernel_rfl) rfl rfl rfl rfl rfl ?_
                          refine N_no2 13 (np_cut np_body) (by kernel_rfl) rfl rfl rfl rfl rfl ?_
                          refine N_no2 14 (np_cut np_body) (by kernel_rfl) rfl rfl rfl rfl rfl ?_
                          refine N_no2 15 (np_cut np_body) (by kernel_rfl) rfl rfl rfl rfl rfl ?_
                          refine N_no 16 (np_cut np_body) (by kernel_rfl) rfl rfl rfl rfl hg153 rfl ?_
                          refine N_hoist 17 (np_cut np_body) (by kernel_rfl) rfl (fun _ => r_pickT rfl hg153 rfl) rfl ?_
                          refine N_hoist 18 (np_cut np_body) (by kernel_rfl) rfl (fun _ => RunsAt_pu rfl) rfl ?_
                          refine N_end (by kernel_rfl) ?_
                          refine At_cut true (.cons rfl (Sub.nil _)) ⟨hL152, hf42_2, h⟩
                        · replace h := Go.L.ite_p (not_dec_f hg153) h
                          refine N_hoistg 6 (np_cut np_body) (by kernel_rfl) rfl rfl rfl rfl hg153 (fun _ => RunsAt_pu rfl) rfl ?_
                          refine N1 (i := 4) (by kernel_rfl) rfl ?_
                          refine S_guarded rfl rfl hg153 ?_
                          refine S_v (r_field rfl Try.underlying32 rfl zr3 (by decide)) rfl ?_
                          refine N_nil ?_
                          refine N1 (i := 5) (by kernel_rfl) rfl ?_
                          refine S_guarded rfl rfl hg153 ?_
                          refine S_v (r_loadB1 3 rfl Try.underlying3 rfl hL152 rfl rfl) rfl ?_
                          refine N_nil ?_
                          refine N_hoistg 7 (np_cut np_body) (by kernel_rfl) rfl rfl rfl rfl hg153 (fun _ => RunsAt_pu rfl) rfl ?_
                          refine N_hoistg 8 (np_cut np_body) (by kernel_rfl) rfl rfl rfl rfl hg153 (fun _ => RunsAt_pu rfl) rfl ?_
                          refine N_split (s := 111) rfl (fun hg156 => ?_) (fun hg156 => ?_)
                          · replace h := Go.L.ite_p (of_decide_eq_true hg156) h
                            refine N_hoistg 11 (np_cut np_body) (by kernel_rfl) rfl rfl rfl rfl hg156 (fun _ => RunsAt_pu rfl) rfl ?_
                            refine N_hoistg 12 (np_cut np_body) (by kernel_rfl) rfl rfl rfl rfl hg156 (fun _ => RunsAt_pu rfl) rfl ?_
                            refine N_hoistg 13 (np_cut np_body) (by kernel_rfl) rfl rfl rfl rfl hg156 (fun _ => r_conv Try.underlying3 Try.underlying5 rfl (conv_64_u8 _)) rfl ?_
                            refine N2 (i := 9) (j := 14) (by kernel_rfl) rfl rfl ?_ ?_
                            · refine S_guarded rfl rfl hg156 ?_
                              refine S_v (r_field rfl Try.underlying32 rfl zr22 (by decide)) rfl ?_
                              refine N_nil ?_
                              refine N2 (i := 10) (j := 14) (by kernel_rfl) rfl rfl ?_ ?_
                              · refine S_guarded rfl rfl hg156 ?_
                                refine S_v (r_loadB1 3 rfl Try.underlying22 rfl hL152 rfl rfl) rfl ?_
                                refine N_nil ?_
                                refine N1 (i := 14) (by kernel_rfl) rfl ?_
                                refine S_guarded rfl rfl hg156 ?_
                                obtain ⟨x158, hb158, h⟩ := Go.L.bind_some h
                                refine S_callL rfl rfl hL152 (ref4_Values_ok _ _ (gz_le hH hL152) hfs13_41 hb158) ?_
                                rintro u159_0 w159 ⟨_, rfl, hR159_0⟩ hx159 hL159 hle159
                                have hv159_0 := hR159_0.vecG hH hL152 hx159
                                replace hfs13_41 := hfs13_41.mono (gz_mono hH hle159)
                                replace hf42_2 := hf42_2.mono (gz_mono hH hle159)
                                refine N_nil ?_
                                refine N1 (i := 15) (by kernel_rfl) rfl ?_
                                refine S_guarded rfl rfl hg156 ?_
                                refine S_callL rfl rfl hL159 (same_l _ _ (gz_le hH hL159) hf42_2 hv159_0) ?_
                                rintro _ w160 rfl hx160 hL160 hle160
                                replace hfs13_41 := hfs13_41.mono (gz_mono hH hle160)
                                replace hf42_2 := hf42_2.mono (gz_mono hH hle160)
                                replace hv159_0 := hv159_0.mono (gz_mono hH hle160)
                                refine N_nil ?_
                                refine N_hoistg 16 (np_cut np_body) (by kernel_rfl) rfl rfl rfl rfl hg153 (fun _ => r_pickT rfl hg156 rfl) rfl ?_
                                refine N_hoist 17 (np_cut np_body) (by kernel_rfl) rfl (fun _ => r_pickF rfl hg153 rfl) rfl ?_
                                refine N_hoist 18 (np_cut np_body) (by kernel_rfl) rfl (fun _ => RunsAt_pu rfl) rfl ?_
                                refine N_end (by kernel_rfl) ?_
                                refine At_cut (decide ((((M.axK a0 a1 a2, M.axD a0 a1 a2)).2) = x158)) (.cons rfl (Sub.nil _)) ⟨hL160, hf42_2, h⟩
                              · obtain ⟨x158, hb158, h⟩ := Go.L.bind_some h
                                refine S_guarded rfl rfl hg156 ?_
                                refine S_callL rfl rfl hL152 (ref4_Values_ok _ _ (gz_le hH hL152) hfs13_41 hb158) ?_
                                rintro u161_0 w161 ⟨_, rfl, hR161_0⟩ hx161 hL161 hle161
                                have hv161_0 := hR161_0.vecG hH hL152 hx161
                                replace hfs13_41 := hfs13_41.mono (gz_mono hH hle161)
                                replace hf42_2 := hf42_2.mono (gz_mono hH hle161)
                                refine N_nil ?_
                                refine N1 (i := 10) (by kernel_rfl) rfl ?_
                                refine S_guarded rfl rfl hg156 ?_
                                refine S_v (r_loadB1 3 rfl Try.underlying22 rfl hL161 rfl rfl) rfl ?_
                                refine N_nil ?_
                                refine N1 (i := 15) (by kernel_rfl) rfl ?_
                                refine S_guarded rfl rfl hg156 ?_
                                refine S_callL rfl rfl hL161 (same_l _ _ (gz_le hH hL161) hf42_2 hv161_0) ?_
                                rintro _ w162 rfl hx162 hL162 hle162
                                replace hfs13_41 := hfs13_41.mono (gz_mono hH hle162)
                                replace hf42_2 := hf42_2.mono (gz_mono hH hle162)
                                replace hv161_0 := hv161_0.mono (gz_mono hH hle162)
                                refine N_nil ?_
                                refine N_hoistg 16 (np_cut np_body) (by kernel_rfl) rfl rfl rfl rfl hg153 (fun _ => r_pickT rfl hg156 rfl) rfl ?_
                                refine N_hoist 17 (np_cut np_body) (by kernel_rfl) rfl (fun _ => r_pickF rfl hg153 rfl) rfl ?_
                                refine N_hoist 18 (np_cut np_body) (by kernel_rfl) rfl (fun _ => RunsAt_pu rfl) rfl ?_
                                refine N_end (by kernel_rfl) ?_
                                refine At_cut (decide ((((M.axK a0 a1 a2, M.axD a0 a1 a2)).2) = x158)) (.cons rfl (Sub.nil _)) ⟨hL162, hf42_2, h⟩
                            · obtain ⟨x158, hb158, h⟩ := Go.L.bind_some h
                              refine S_guarded rfl rfl hg156 ?_
                              refine S_callL rfl rfl hL152 (ref4_Values_ok _ _ (gz_le hH hL152) hfs13_41 hb158) ?_
                              rintro u163_0 w163 ⟨_, rfl, hR163_0⟩ hx163 hL163 hle163
                              have hv163_0 := hR163_0.vecG hH hL152 hx163
                              replace hfs13_41 := hfs13_41.mono (gz_mono hH hle163)
                              replace hf42_2 := hf42_2.mono (gz_mono hH hle163)
                              refine N_nil ?_
                              refine N1 (i := 9) (by kernel_rfl) rfl ?_
                              refine S_guarded rfl rfl hg156 ?_
                              refine S_v (r_field rfl Try.underlying32 rfl zr22 (by decide)) rfl ?_
                              refine N_nil ?_
                              refine N1 (i := 10) (by kernel_rfl) rfl ?_
                              refine S_guarded rfl rfl hg156 ?_
                              refine S_v (r_loadB1 3 rfl Try.underlying22 rfl hL163 rfl rfl) rfl ?_
                              refine N_nil ?_
                              refine N1 (i := 15) (by kernel_rfl) rfl ?_
                              refine S_guarded rfl rfl hg156 ?_
                              refine S_callL rfl rfl hL163 (same_l _ _ (gz_le hH hL163) hf42_2 hv163_0) ?_
                              rintro _ w164 rfl hx164 hL164 hle164
                              replace hfs13_41 := hfs13_41.mono (gz_mono hH hle164)
                              replace hf42_2 := hf42_2.mono (gz_mono hH hle164)
                              replace hv163_0 := hv163_0.mono (gz_mono hH hle164)
                              refine N_nil ?_
                              refine N_hoistg 16 (np_cut np_body) (by kernel_rfl) rfl rfl rfl rfl hg153 (fun _ => r_pickT rfl hg156 rfl) rfl ?_
                              refine N_hoist 17 (np_cut np_body) (by kernel_rfl) rfl (fun _ => r_pickF rfl hg153 rfl) rfl ?_
                              refine N_hoist 18 (np_cut np_body) (by kernel_rfl) rfl (fun _ => RunsAt_pu rfl) rfl ?_
                              refine N_end (by kernel_rfl) ?_
                              refine At_cut (decide ((((M.axK a0 a1 a2, M.axD a0 a1 a2)).2) = x158)) (.cons rfl (Sub.nil _)) ⟨hL164, hf42_2, h⟩
                          · replace h := Go.L.ite_n (of_decide_eq_false hg156) h
                            refine N_no 9 (np_cut np_body) (by kernel_rfl) rfl rfl rfl rfl hg156 rfl ?_
                            refine N_no 10 (np_cut np_body) (by kernel_rfl) rfl rfl rfl rfl hg156 rfl ?_
                            refine N_no 11 (np_cut np_body) (by kernel_rfl) rfl rfl rfl rfl hg156 rfl ?_
                            refine N_no 12 (np_cut np_body) (by kernel_rfl) rfl rfl rfl rfl hg156 rfl ?_
                            refine N_no 13 (np_cut np_body) (by kernel_rfl) rfl rfl rfl rfl hg156 rfl ?_
                            refine N_no 14 (np_cut np_body) (by kernel_rfl) rfl rfl rfl rfl hg156 rfl ?_
                            refine N_no 15 (np_cut np_body) (by kernel_rfl) rfl rfl rfl rfl hg156 rfl ?_
                            refine N_hoistg 16 (np_cut np_body) (by kernel_rfl) rfl rfl rfl rfl hg153 (fun _ => r_pickF rfl hg156 rfl) rfl ?_
                            refine N_hoist 17 (np_cut np_body) (by kernel_rfl) rfl (fun _ => r_pickF rfl hg153 rfl) rfl ?_
                            refine N_hoist 18 (np_cut np_body) (by kernel_rfl) rfl (fun _ => RunsAt_pu rfl) rfl ?_
                            refine N_end (by kernel_rfl) ?_
                            refine At_cut false (.cons rfl (Sub.nil _)) ⟨hL152, hf42_2, h⟩
                      · rintro s6_148 wr149 ⟨hL149, hf149_0, h⟩
                        refine W_ret ?_
                        obtain rfl := Option.some.inj h
                        refine At_body rfl rfl ?_
                        exact ⟨hL149.ext, rfl⟩
              · replace h := Go.L.ite_p (not_dec_f hg80) h
                refine S_unwanted rfl rfl hg80 rfl ?_
                refine S_unwanted rfl rfl hg80 rfl ?_
                refine S_unwanted rfl rfl hg80 rfl ?_
                refine S_unwanted rfl rfl hg80 rfl ?_
                refine S_unwanted2 rfl rfl rfl ?_
                refine S_unwanted2 rfl rfl rfl ?_
                refine S_unwanted2 rfl rfl rfl ?_
                refine S_unwanted2 rfl rfl rfl ?_
                refine S_unwanted rfl rfl hg80 rfl ?_
                refine S_guarded rfl rfl hg77 ?_
                refine S_v (r_pickF rfl hg80 rfl) rfl ?_
                refine S_v (r_pickF rfl hg77 rfl) rfl ?_
                refine S_seqnil ?_
                refine W_false rfl ?_
                refine W_skip ?_
                refine At_seq ?_
                refine W_seq ?_
                refine W_seqr ?_
                refine S_v (r_field rfl Try.underlying25 rfl zr3 (by decide)) rfl ?_
                refine S_v (r_loadB1 1 rfl Try.underlying3 rfl hL65 rfl rfl) rfl ?_
                refine S_pu 2 rfl ?_
                refine S_split (s := 96) rfl (fun hg168 => ?_) (fun hg168 => ?_)
                · replace h := Go.L.ite_p (of_decide_eq_true hg168) h
                  refine S_guarded rfl rfl hg168 ?_
                  refine S_v (RunsAt_pu rfl) rfl ?_
                  refine S_guarded rfl rfl hg168 ?_
                  refine S_v (RunsAt_pu rfl) rfl ?_
                  refine S_guarded rfl rfl hg168 ?_
                  obtain ⟨x170, hb170, h⟩ := Go.L.bind_some h
                  have hok171 := ref4_Values_ok _ _ (gz_le hH hL65) hfs13_41 hb170
                  rw [show (((0 : UInt8).toNat : Nat) : Int) = 0 from rfl] at hok171
                  refine S_callL rfl rfl hL65 hok171 ?_
                  rintro u171_0 w171 ⟨_, rfl, hR171_0⟩ hx171 hL171 hle171
                  have hv171_0 := hR171_0.vecG hH hL65 hx171
                  replace hf42_0 := hf42_0.mono (gz_mono hH hle171)
                  replace hfs13_41 := hfs13_41.mono (gz_mono hH hle171)
                  replace hf42_2 := hf42_2.mono (gz_mono hH hle171)
                  refine S_guarded rfl rfl hg168 ?_
                  refine S_callL rfl rfl hL171 (same_l _ _ (gz_le hH hL171) hf42_0 hv171_0) ?_
                  rintro _ w172 rfl hx172 hL172 hle172
                  replace hf42_0 := hf42_0.mono (gz_mono hH hle172)
                  replace hfs13_41 := hfs13_41.mono (gz_mono hH hle172)
                  replace hf42_2 := hf42_2.mono (gz_mono hH hle172)
                  replace hv171_0 := hv171_0.mono (gz_mono hH hle172)
                  refine S_guarded rfl rfl hg168 ?_
                  refine S_v (RunsAt_pu rfl) rfl ?_
                  refine S_v (r_pickT rfl hg168 rfl) rfl ?_
                  refine S_seqnil ?_
                  refine W_ifn rfl (fun hc173 => ?_) (fun hc173 => ?_)
                  · replace h := Go.L.ite_n hc173 h
                    refine W_seqr ?_
                    refine S_pu 1 rfl ?_
                    refine S_seqnil ?_
                    refine W_ret ?_
                    refine At_seq_ret ?_
                    obtain rfl := Option.some.inj h
                    refine At_body rfl rfl ?_
                    exact ⟨hL172.ext, rfl⟩
                  · replace h := Go.L.ite_p hc173 h
                    refine W_skip ?_
                    refine At_seq ?_
                    refine W_cut (σ := Bool) (fun (s6_192 : Bool) => [(6, .bool s6_192)]) (fun (s6_192 : Bool) wr => Lcl w [.box b14 [.int .i64 c37, .int .i64 c38] 25, .box b11 [.int .i64 c39, .int .i64 c40] 25, .box b6 [.int .i64 (((M.axF a0 a1 a2)).1), .int .i64 (((M.axF a0 a1 a2)).2)] 25, .box b5 [.int .i64 (((M.axK a0 a1 a2, M.axD a0 a1 a2)).1), u4_0] 32, .box b2 [.int .i64 (((M.jnF a0 a1)).1), .int .i64 (((M.jnF a0 a1)).2)] 25] wr ∧ Vec .byte (gz H w wr [.box b14 [.int .i64 c37, .int .i64 c38] 25, .box b11 [.int .i64 c39, .int .i64 c40] 25, .box b6 [.int .i64 (((M.axF a0 a1 a2)).1), .int .i64 (((M.axF a0 a1 a2)).2)] 25, .box b5 [.int .i64 (((M.axK a0 a1 a2, M.axD a0 a1 a2)).1), u4_0] 32, .box b2 [.int .i64 (((M.jnF a0 a1)).1), .int .i64 (((M.jnF a0 a1)).2)] 25]) (u4_0) (((M.axK a0 a1 a2, M.axD a0 a1 a2)).2) ∧ law4_SharesJoinMatchesSpec_k4 s6_192 = some r) ?_ ?_
                    · refine W_naive mixed rfl (fun w195 hx195 => ?_)
                      have hL196 := hL172.call hx195
                      have hle196 := fz_ext hL172 hx195
                      replace hfs13_41 := hfs13_41.mono (gz_mono hH hle196)
                      replace hf42_2 := hf42_2.mono (gz_mono hH hle196)
                      refine N1 (i := 0) (by kernel_rfl) rfl ?_
                      refine S_v (r_field rfl Try.underlying25 rfl zr3 (by decide)) rfl ?_
                      refine N_nil ?_
                      refine N1 (i := 1) (by kernel_rfl) rfl ?_
                      refine S_v (r_loadB1 0 rfl Try.underlying3 rfl hL196 rfl rfl) rfl ?_
                      refine N_nil ?_
                      refine N_hoist 2 (np_cut np_body) (by kernel_rfl) rfl (fun _ => RunsAt_pu rfl) rfl ?_
                      refine N_hoist 3 (np_cut np_body) (by kernel_rfl) rfl (fun _ => RunsAt_pu rfl) rfl ?_
                      refine N_split (s := 106) rfl (fun hg197 => ?_) (fun hg197 => ?_)
                      · replace h := Go.L.ite_n (not_dec_t hg197) h
                        refine N_no 4 (np_cut np_body) (by kernel_rfl) rfl rfl rfl rfl hg197 rfl ?_
                        refine N_no 5 (np_cut np_body) (by kernel_rfl) rfl rfl rfl rfl hg197 rfl ?_
                        refine N_no 6 (np_cut np_body) (by kernel_rfl) rfl rfl rfl rfl hg197 rfl ?_
                        refine N_no 7 (np_cut np_body) (by kernel_rfl) rfl rfl rfl rfl hg197 rfl ?_
                        refine N_no 8 (np_cut np_body) (by kernel_rfl) rfl rfl rfl rfl hg197 rfl ?_
                        refine N_no2 9 (np_cut np_body) (by kernel_rfl) rfl rfl rfl rfl rfl ?_
                        refine N_no2 10 (np_cut np_body) (by kernel_rfl) rfl rfl rfl rfl rfl ?_
                        refine N_no2 11 (np_cut np_body) (by kernel_rfl) rfl rfl rfl rfl rfl ?_
                        refine N_no2 12 (np_cut np_body) (by kernel_rfl) rfl rfl rfl rfl rfl ?_
                        refine N_no2 13 (np_cut np_body) (by kernel_rfl) rfl rfl rfl rfl rfl ?_
                        refine N_no2 14 (np_cut np_body) (by kernel_rfl) rfl rfl rfl rfl rfl ?_
                        refine N_no2 15 (np_cut np_body) (by kernel_rfl) rfl rfl rfl rfl rfl ?_
                        refine N_no 16 (np_cut np_body) (by kernel_rfl) rfl rfl rfl rfl hg197 rfl ?_
                        refine N_hoist 17 (np_cut np_body) (by kernel_rfl) rfl (fun _ => r_pickT rfl hg197 rfl) rfl ?_
                        refine N_hoist 18 (np_cut np_body) (by kernel_rfl) rfl (fun _ => RunsAt_pu rfl) rfl ?_
                        refine N_end (by kernel_rfl) ?_
                        refine At_cut true (.cons rfl (Sub.nil _)) ⟨hL196, hf42_2, h⟩
                      · replace h := Go.L.ite_p (not_dec_f hg197) h
                        refine N_hoistg 6 (np_cut np_body) (by kernel_rfl) rfl rfl rfl rfl hg197 (fun _ => RunsAt_pu rfl) rfl ?_
                        refine N1 (i := 4) (by kernel_rfl) rfl ?_
                        refine S_guarded rfl rfl hg197 ?_
                        refine S_v (r_field rfl Try.underlying32 rfl zr3 (by decide)) rfl ?_
                        refine N_nil ?_
                        refine N1 (i := 5) (by kernel_rfl) rfl ?_
                        refine S_guarded rfl rfl hg197 ?_
                        refine S_v (r_loadB1 3 rfl Try.underlying3 rfl hL196 rfl rfl) rfl ?_
                        refine N_nil ?_
                        refine N_hoistg 7 (np_cut np_body) (by kernel_rfl) rfl rfl rfl rfl hg197 (fun _ => RunsAt_pu rfl) rfl ?_
                        refine N_hoistg 8 (np_cut np_body) (by kernel_rfl) rfl rfl rfl rfl hg197 (fun _ => RunsAt_pu rfl) rfl ?_
                        refine N_split (s := 111) rfl (fun hg200 => ?_) (fun hg200 => ?_)
                        · replace h := Go.L.ite_p (of_decide_eq_true hg200) h
                          refine N_hoistg 11 (np_cut np_body) (by kernel_rfl) rfl rfl rfl rfl hg200 (fun _ => RunsAt_pu rfl) rfl ?_
                          refine N_hoistg 12 (np_cut np_body) (by kernel_rfl) rfl rfl rfl rfl hg200 (fun _ => RunsAt_pu rfl) rfl ?_
                          refine N_hoistg 13 (np_cut np_body) (by kernel_rfl) rfl rfl rfl rfl hg200 (fun _ => r_conv Try.underlying3 Try.underlying5 rfl (conv_64_u8 _)) rfl ?_
                          refine N2 (i := 9) (j := 14) (by kernel_rfl) rfl rfl ?_ ?_
                          · refine S_guarded rfl rfl hg200 ?_
                            refine S_v (r_field rfl Try.underlying32 rfl zr22 (by decide)) rfl ?_
                            refine N_nil ?_
                            refine N2 (i := 10) (j := 14) (by kernel_rfl) rfl rfl ?_ ?_
                            · refine S_guarded rfl rfl hg200 ?_
                              refine S_v (r_loadB1 3 rfl Try.underlying22 rfl hL196 rfl rfl) rfl ?_
                              refine N_nil ?_
                              refine N1 (i := 14) (by kernel_rfl) rfl ?_
                              refine S_guarded rfl rfl hg200 ?_
                              obtain ⟨x202, hb202, h⟩ := Go.L.bind_some h
                              refine S_callL rfl rfl hL196 (ref4_Values_ok _ _ (gz_le hH hL196) hfs13_41 hb202) ?_
                              rintro u203_0 w203 ⟨_, rfl, hR203_0⟩ hx203 hL203 hle203
                              have hv203_0 := hR203_0.vecG hH hL196 hx203
                              replace hfs13_41 := hfs13_41.mono (gz_mono hH hle203)
                              replace hf42_2 := hf42_2.mono (gz_mono hH hle203)
                              refine N_nil ?_
                              refine N1 (i := 15) (by kernel_rfl) rfl ?_
                              refine S_guarded rfl rfl hg200 ?_
                              refine S_callL rfl rfl hL203 (same_l _ _ (gz_le hH hL203) hf42_2 hv203_0) ?_
                              rintro _ w204 rfl hx204 hL204 hle204
                              replace hfs13_41 := hfs13_41.mono (gz_mono hH hle204)
                              replace hf42_2 := hf42_2.mono (gz_mono hH hle204)
                              replace hv203_0 := hv203_0.mono (gz_mono hH hle204)
                              refine N_nil ?_
                              refine N_hoistg 16 (np_cut np_body) (by kernel_rfl) rfl rfl rfl rfl hg197 (fun _ => r_pickT rfl hg200 rfl) rfl ?_
                              refine N_hoist 17 (np_cut np_body) (by kernel_rfl) rfl (fun _ => r_pickF rfl hg197 rfl) rfl ?_
                              refine N_hoist 18 (np_cut np_body) (by kernel_rfl) rfl (fun _ => RunsAt_pu rfl) rfl ?_
                              refine N_end (by kernel_rfl) ?_
                              refine At_cut (decide ((((M.axK a0 a1 a2, M.axD a0 a1 a2)).2) = x202)) (.cons rfl (Sub.nil _)) ⟨hL204, hf42_2, h⟩
                            · obtain ⟨x202, hb202, h⟩ := Go.L.bind_some h
                              refine S_guarded rfl rfl hg200 ?_
                              refine S_callL rfl rfl hL196 (ref4_Values_ok _ _ (gz_le hH hL196) hfs13_41 hb202) ?_
                              rintro u205_0 w205 ⟨_, rfl, hR205_0⟩ hx205 hL205 hle205
                              have hv205_0 := hR205_0.vecG hH hL196 hx205
                              replace hfs13_41 := hfs13_41.mono (gz_mono hH hle205)
                              replace hf42_2 := hf42_2.mono (gz_mono hH hle205)
                              refine N_nil ?_
                              refine N1 (i := 10) (by kernel_rfl) rfl ?_
                              refine S_guarded rfl rfl hg200 ?_
                              refine S_v (r_loadB1 3 rfl Try.underlying22 rfl hL205 rfl rfl) rfl ?_
                              refine N_nil ?_
                              refine N1 (i := 15) (by kernel_rfl) rfl ?_
                              refine S_guarded rfl rfl hg200 ?_
                              refine S_callL rfl rfl hL205 (same_l _ _ (gz_le hH hL205) hf42_2 hv205_0) ?_
                              rintro _ w206 rfl hx206 hL206 hle206
                              replace hfs13_41 := hfs13_41.mono (gz_mono hH hle206)
                              replace hf42_2 := hf42_2.mono (gz_mono hH hle206)
                              replace hv205_0 := hv205_0.mono (gz_mono hH hle206)
                              refine N_nil ?_
                              refine N_hoistg 16 (np_cut np_body) (by kernel_rfl) rfl rfl rfl rfl hg197 (fun _ => r_pickT rfl hg200 rfl) rfl ?_
                              refine N_hoist 17 (np_cut np_body) (by kernel_rfl) rfl (fun _ => r_pickF rfl hg197 rfl) rfl ?_
                              refine N_hoist 18 (np_cut np_body) (by kernel_rfl) rfl (fun _ => RunsAt_pu rfl) rfl ?_
                              refine N_end (by kernel_rfl) ?_
                              refine At_cut (decide ((((M.axK a0 a1 a2, M.axD a0 a1 a2)).2) = x202)) (.cons rfl (Sub.nil _)) ⟨hL206, hf42_2, h⟩
                          · obtain ⟨x202, hb202, h⟩ := Go.L.bind_some h
                            refine S_guarded rfl rfl hg200 ?_
                            refine S_callL rfl rfl hL196 (ref4_Values_ok _ _ (gz_le hH hL196) hfs13_41 hb202) ?_
                            rintro u207_0 w207 ⟨_, rfl, hR207_0⟩ hx207 hL207 hle207
                            have hv207_0 := hR207_0.vecG hH hL196 hx207
                            replace hfs13_41 := hfs13_41.mono (gz_mono hH hle207)
                            replace hf42_2 := hf42_2.mono (gz_mono hH hle207)
                            refine N_nil ?_
                            refine N1 (i := 9) (by kernel_rfl) rfl ?_
                            refine S_guarded rfl rfl hg200 ?_
                            refine S_v (r_field rfl Try.underlying32 rfl zr22 (by decide)) rfl ?_
                            refine N_nil ?_
                            refine N1 (i := 10) (by kernel_rfl) rfl ?_
                            refine S_guarded rfl rfl hg200 ?_
                            refine S_v (r_loadB1 3 rfl Try.underlying22 rfl hL207 rfl rfl) rfl ?_
                            refine N_nil ?_
                            refine N1 (i := 15) (by kernel_rfl) rfl ?_
                            refine S_guarded rfl rfl hg200 ?_
                            refine S_callL rfl rfl hL207 (same_l _ _ (gz_le hH hL207) hf42_2 hv207_0) ?_
                            rintro _ w208 rfl hx208 hL208 hle208
                            replace hfs13_41 := hfs13_41.mono (gz_mono hH hle208)
                            replace hf42_2 := hf42_2.mono (gz_mono hH hle208)
                            replace hv207_0 := hv207_0.mono (gz_mono hH hle208)
                            refine N_nil ?_
                            refine N_hoistg 16 (np_cut np_body) (by kernel_rfl) rfl rfl rfl rfl hg197 (fun _ => r_pickT rfl hg200 rfl) rfl ?_
                            refine N_hoist 17 (np_cut np_body) (by kernel_rfl) rfl (fun _ => r_pickF rfl hg197 rfl) rfl ?_
                            refine N_hoist 18 (np_cut np_body) (by kernel_rfl) rfl (fun _ => RunsAt_pu rfl) rfl ?_
                            refine N_end (by kernel_rfl) ?_
                            refine At_cut (decide ((((M.axK a0 a1 a2, M.axD a0 a1 a2)).2) = x202)) (.cons rfl (Sub.nil _)) ⟨hL208, hf42_2, h⟩
                        · replace h := Go.L.ite_n (of_decide_eq_false hg200) h
                          refine N_no 9 (np_cut np_body) (by kernel_rfl) rfl rfl rfl rfl hg200 rfl ?_
                          refine N_no 10 (np_cut np_body) (by kernel_rfl) rfl rfl rfl rfl hg200 rfl ?_
                          refine N_no 11 (np_cut np_body) (by kernel_rfl) rfl rfl rfl rfl hg200 rfl ?_
                          refine N_no 12 (np_cut np_body) (by kernel_rfl) rfl rfl rfl rfl hg200 rfl ?_
                          refine N_no 13 (np_cut np_body) (by kernel_rfl) rfl rfl rfl rfl hg200 rfl ?_
                          refine N_no 14 (np_cut np_body) (by kernel_rfl) rfl rfl rfl rfl hg200 rfl ?_
                          refine N_no 15 (np_cut np_body) (by kernel_rfl) rfl rfl rfl rfl hg200 rfl ?_
                          refine N_hoistg 16 (np_cut np_body) (by kernel_rfl) rfl rfl rfl rfl hg197 (fun _ => r_pickF rfl hg200 rfl) rfl ?_
                          refine N_hoist 17 (np_cut np_body) (by kernel_rfl) rfl (fun _ => r_pickF rfl hg197 rfl) rfl ?_
                          refine N_hoist 18 (np_cut np_body) (by kernel_rfl) rfl (fun _ => RunsAt_pu rfl) rfl ?_
                          refine N_end (by kernel_rfl) ?_
                          refine At_cut false (.cons rfl (Sub.nil _)) ⟨hL196, hf42_2, h⟩
                    · rintro s6_192 wr193 ⟨hL193, hf193_0, h⟩
                      refine W_ret ?_
                      obtain rfl := Option.some.inj h
                      refine At_body rfl rfl ?_
                      exact ⟨hL193.ext, rfl⟩
                · replace h := Go.L.ite_n (of_decide_eq_false hg168) h
                  refine S_unwanted rfl rfl hg168 rfl ?_
                  refine S_unwanted rfl rfl hg168 rfl ?_
                  refine S_unwanted rfl rfl hg168 rfl ?_
                  refine S_unwanted rfl rfl hg168 rfl ?_
                  refine S_unwanted rfl rfl hg168 rfl ?_
                  refine S_v (r_pickF rfl hg168 rfl) rfl ?_
                  refine S_seqnil ?_
                  refine W_false rfl ?_
                  refine W_skip ?_
                  refine At_seq ?_
                  refine W_cut (σ := Bool) (fun (s6_228 : Bool) => [(6, .bool s6_228)]) (fun (s6_228 : Bool) wr => Lcl w [.box b14 [.int .i64 c37, .int .i64 c38] 25, .box b11 [.int .i64 c39, .int .i64 c40] 25, .box b6 [.int .i64 (((M.axF a0 a1 a2)).1), .int .i64 (((M.axF a0 a1 a2)).2)] 25, .box b5 [.int .i64 (((M.axK a0 a1 a2, M.axD a0 a1 a2)).1), u4_0] 32, .box b2 [.int .i64 (((M.jnF a0 a1)).1), .int .i64 (((M.jnF a0 a1)).2)] 25] wr ∧ Vec .byte (gz H w wr [.box b14 [.int .i64 c37, .int .i64 c38] 25, .box b11 [.int .i64 c39, .int .i64 c40] 25, .box b6 [.int .i64 (((M.axF a0 a1 a2)).1), .int .i64 (((M.axF a0 a1 a2)).2)] 25, .box b5 [.int .i64 (((M.axK a0 a1 a2, M.axD a0 a1 a2)).1), u4_0] 32, .box b2 [.int .i64 (((M.jnF a0 a1)).1), .int .i64 (((M.jnF a0 a1)).2)] 25]) (u4_0) (((M.axK a0 a1 a2, M.axD a0 a1 a2)).2) ∧ law4_SharesJoinMatchesSpec_k5 s6_228 = some r) ?_ ?_
                  · refine W_naive mixed rfl (fun w231 hx231 => ?_)
                    have hL232 := hL65.call hx231
                    have hle232 := fz_ext hL65 hx231
                    replace hfs13_41 := hfs13_41.mono (gz_mono hH hle232)
                    replace hf42_2 := hf42_2.mono (gz_mono hH hle232)
                    refine N1 (i := 0) (by kernel_rfl) rfl ?_
                    refine S_v (r_field rfl Try.underlying25 rfl zr3 (by decide)) rfl ?_
                    refine N_nil ?_
                    refine N1 (i := 1) (by kernel_rfl) rfl ?_
                    refine S_v (r_loadB1 0 rfl Try.underlying3 rfl hL232 rfl rfl) rfl ?_
                    refine N_nil ?_
                    refine N_hoist 2 (np_cut np_body) (by kernel_rfl) rfl (fun _ => RunsAt_pu rfl) rfl ?_
                    refine N_hoist 3 (np_cut np_body) (by kernel_rfl) rfl (fun _ => RunsAt_pu rfl) rfl ?_
                    refine N_split (s := 106) rfl (fun hg233 => ?_) (fun hg233 => ?_)
                    · replace h := Go.L.ite_n (not_dec_t hg233) h
                      refine N_no 4 (np_cut np_body) (by kernel_rfl) rfl rfl rfl rfl hg233 rfl ?_
                      refine N_no 5 (np_cut np_body) (by kernel_rfl) rfl rfl rfl rfl hg233 rfl ?_
                      refine N_no 6 (np_cut np_body) (by kernel_rfl) rfl rfl rfl rfl hg233 rfl ?_
                      refine N_no 7 (np_cut np_body) (by kernel_rfl) rfl rfl rfl rfl hg233 rfl ?_
                      refine N_no 8 (np_cut np_body) (by kernel_rfl) rfl rfl rfl rfl hg233 rfl ?_
                      refine N_no2 9 (np_cut np_body) (by kernel_rfl) rfl rfl rfl rfl rfl ?_
                      refine N_no2 10 (np_cut np_body) (by kernel_rfl) rfl rfl rfl rfl rfl ?_
                      refine N_no2 11 (np_cut np_body) (by kernel_rfl) rfl rfl rfl rfl rfl ?_
                      refine N_no2 12 (np_cut np_body) (by kernel_rfl) rfl rfl rfl rfl rfl ?_
                      refine N_no2 13 (np_cut np_body) (by kernel_rfl) rfl rfl rfl rfl rfl ?_
                      refine N_no2 14 (np_cut np_body) (by kernel_rfl) rfl rfl rfl rfl rfl ?_
                      refine N_no2 15 (np_cut np_body) (by kernel_rfl) rfl rfl rfl rfl rfl ?_
                      refine N_no 16 (np_cut np_body) (by kernel_rfl) rfl rfl rfl rfl hg233 rfl ?_
                      refine N_hoist 17 (np_cut np_body) (by kernel_rfl) rfl (fun _ => r_pickT rfl hg233 rfl) rfl ?_
                      refine N_hoist 18 (np_cut np_body) (by kernel_rfl) rfl (fun _ => RunsAt_pu rfl) rfl ?_
                      refine N_end (by kernel_rfl) ?_
                      refine At_cut true (.cons rfl (Sub.nil _)) ⟨hL232, hf42_2, h⟩
                    · replace h := Go.L.ite_p (not_dec_f hg233) h
                      refine N_hoistg 6 (np_cut np_body) (by kernel_rfl) rfl rfl rfl rfl hg233 (fun _ => RunsAt_pu rfl) rfl ?_
                      refine N1 (i := 4) (by kernel_rfl) rfl ?_
                      refine S_guarded rfl rfl hg233 ?_
                      refine S_v (r_field rfl Try.underlying32 rfl zr3 (by decide)) rfl ?_
                      refine N_nil ?_
                      refine N1 (i := 5) (by kernel_rfl) rfl ?_
                      refine S_guarded rfl rfl hg233 ?_
                      refine S_v (r_loadB1 3 rfl Try.underlying3 rfl hL232 rfl rfl) rfl ?_
                      refine N_nil ?_
                      refine N_hoistg 7 (np_cut np_body) (by kernel_rfl) rfl rfl rfl rfl hg233 (fun _ => RunsAt_pu rfl) rfl ?_
                      refine N_hoistg 8 (np_cut np_body) (by kernel_rfl) rfl rfl rfl rfl hg233 (fun _ => RunsAt_pu rfl) rfl ?_
                      refine N_split (s := 111) rfl (fun hg236 => ?_) (fun hg236 => ?_)
                      · replace h := Go.L.ite_p (of_decide_eq_true hg236) h
                        refine N_hoistg 11 (np_cut np_body) (by kernel_rfl) rfl rfl rfl rfl hg236 (fun _ => RunsAt_pu rfl) rfl ?_
                        refine N_hoistg 12 (np_cut np_body) (by kernel_rfl) rfl rfl rfl rfl hg236 (fun _ => RunsAt_pu rfl) rfl ?_
                        refine N_hoistg 13 (np_cut np_body) (by kernel_rfl) rfl rfl rfl rfl hg236 (fun _ => r_conv Try.underlying3 Try.underlying5 rfl (conv_64_u8 _)) rfl ?_
                        refine N2 (i := 9) (j := 14) (by kernel_rfl) rfl rfl ?_ ?_
                        · refine S_guarded rfl rfl hg236 ?_
                          refine S_v (r_field rfl Try.underlying32 rfl zr22 (by decide)) rfl ?_
                          refine N_nil ?_
                          refine N2 (i := 10) (j := 14) (by kernel_rfl) rfl rfl ?_ ?_
                          · refine S_guarded rfl rfl hg236 ?_
                            refine S_v (r_loadB1 3 rfl Try.underlying22 rfl hL232 rfl rfl) rfl ?_
                            refine N_nil ?_
                            refine N1 (i := 14) (by kernel_rfl) rfl ?_
                            refine S_guarded rfl rfl hg236 ?_
                            obtain ⟨x238, hb238, h⟩ := Go.L.bind_some h
                            refine S_callL rfl rfl hL232 (ref4_Values_ok _ _ (gz_le hH hL232) hfs13_41 hb238) ?_
                            rintro u239_0 w239 ⟨_, rfl, hR239_0⟩ hx239 hL239 hle239
                            have hv239_0 := hR239_0.vecG hH hL232 hx239
                            replace hfs13_41 := hfs13_41.mono (gz_mono hH hle239)
                            replace hf42_2 := hf42_2.mono (gz_mono hH hle239)
                            refine N_nil ?_
                            refine N1 (i := 15) (by kernel_rfl) rfl ?_
                            refine S_guarded rfl rfl hg236 ?_
                            refine S_callL rfl rfl hL239 (same_l _ _ (gz_le hH hL239) hf42_2 hv239_0) ?_
                            rintro _ w240 rfl hx240 hL240 hle240
                            replace hfs13_41 := hfs13_41.mono (gz_mono hH hle240)
                            replace hf42_2 := hf42_2.mono (gz_mono hH hle240)
                            replace hv239_0 := hv239_0.mono (gz_mono hH hle240)
                            refine N_nil ?_
                            refine N_hoistg 16 (np_cut np_body) (by kernel_rfl) rfl rfl rfl rfl hg233 (fun _ => r_pickT rfl hg236 rfl) rfl ?_
                            refine N_hoist 17 (np_cut np_body) (by kernel_rfl) rfl (fun _ => r_pickF rfl hg233 rfl) rfl ?_
                            refine N_hoist 18 (np_cut np_body) (by kernel_rfl) rfl (fun _ => RunsAt_pu rfl) rfl ?_
                            refine N_end (by kernel_rfl) ?_
                            refine At_cut (decide ((((M.axK a0 a1 a2, M.axD a0 a1 a2)).2) = x238)) (.cons rfl (Sub.nil _)) ⟨hL240, hf42_2, h⟩
                          · obtain ⟨x238, hb238, h⟩ := Go.L.bind_some h
                            refine S_guarded rfl rfl hg236 ?_
                            refine S_callL rfl rfl hL232 (ref4_Values_ok _ _ (gz_le hH hL232) hfs13_41 hb238) ?_
                            rintro u241_0 w241 ⟨_, rfl, hR241_0⟩ hx241 hL241 hle241
                            have hv241_0 := hR241_0.vecG hH hL232 hx241
                            replace hfs13_41 := hfs13_41.mono (gz_mono hH hle241)
                            replace hf42_2 := hf42_2.mono (gz_mono hH hle241)
                            refine N_nil ?_
                            refine N1 (i := 10) (by kernel_rfl) rfl ?_
                            refine S_guarded rfl rfl hg236 ?_
                            refine S_v (r_loadB1 3 rfl Try.underlying22 rfl hL241 rfl rfl) rfl ?_
                            refine N_nil ?_
                            refine N1 (i := 15) (by kernel_rfl) rfl ?_
                            refine S_guarded rfl rfl hg236 ?_
                            refine S_callL rfl rfl hL241 (same_l _ _ (gz_le hH hL241) hf42_2 hv241_0) ?_
                            rintro _ w242 rfl hx242 hL242 hle242
                            replace hfs13_41 := hfs13_41.mono (gz_mono hH hle242)
                            replace hf42_2 := hf42_2.mono (gz_mono hH hle242)
                            replace hv241_0 := hv241_0.mono (gz_mono hH hle242)
                            refine N_nil ?_
                            refine N_hoistg 16 (np_cut np_body) (by kernel_rfl) rfl rfl rfl rfl hg233 (fun _ => r_pickT rfl hg236 rfl) rfl ?_
                            refine N_hoist 17 (np_cut np_body) (by kernel_rfl) rfl (fun _ => r_pickF rfl hg233 rfl) rfl ?_
                            refine N_hoist 18 (np_cut np_body) (by kernel_rfl) rfl (fun _ => RunsAt_pu rfl) rfl ?_
                            refine N_end (by kernel_rfl) ?_
                            refine At_cut (decide ((((M.axK a0 a1 a2, M.axD a0 a1 a2)).2) = x238)) (.cons rfl (Sub.nil _)) ⟨hL242, hf42_2, h⟩
                        · obtain ⟨x238, hb238, h⟩ := Go.L.bind_some h
                          refine S_guarded rfl rfl hg236 ?_
                          refine S_callL rfl rfl hL232 (ref4_Values_ok _ _ (gz_le hH hL232) hfs13_41 hb238) ?_
                          rintro u243_0 w243 ⟨_, rfl, hR243_0⟩ hx243 hL243 hle243
                          have hv243_0 := hR243_0.vecG hH hL232 hx243
                          replace hfs13_41 := hfs13_41.mono (gz_mono hH hle243)
                          replace hf42_2 := hf42_2.mono (gz_mono hH hle243)
                          refine N_nil ?_
                          refine N1 (i := 9) (by kernel_rfl) rfl ?_
                          refine S_guarded rfl rfl hg236 ?_
                          refine S_v (r_field rfl Try.underlying32 rfl zr22 (by decide)) rfl ?_
                          refine N_nil ?_
                          refine N1 (i := 10) (by kernel_rfl) rfl ?_
                          refine S_guarded rfl rfl hg236 ?_
                          refine S_v (r_loadB1 3 rfl Try.underlying22 rfl hL243 rfl rfl) rfl ?_
                          refine N_nil ?_
                          refine N1 (i := 15) (by kernel_rfl) rfl ?_
                          refine S_guarded rfl rfl hg236 ?_
                          refine S_callL rfl rfl hL243 (same_l _ _ (gz_le hH hL243) hf42_2 hv243_0) ?_
                          rintro _ w244 rfl hx244 hL244 hle244
                          replace hfs13_41 := hfs13_41.mono (gz_mono hH hle244)
                          replace hf42_2 := hf42_2.mono (gz_mono hH hle244)
                          replace hv243_0 := hv243_0.mono (gz_mono hH hle244)
                          refine N_nil ?_
                          refine N_hoistg 16 (np_cut np_body) (by kernel_rfl) rfl rfl rfl rfl hg233 (fun _ => r_pickT rfl hg236 rfl) rfl ?_
                          refine N_hoist 17 (np_cut np_body) (by kernel_rfl) rfl (fun _ => r_pickF rfl hg233 rfl) rfl ?_
                          refine N_hoist 18 (np_cut np_body) (by kernel_rfl) rfl (fun _ => RunsAt_pu rfl) rfl ?_
                          refine N_end (by kernel_rfl) ?_
                          refine At_cut (decide ((((M.axK a0 a1 a2, M.axD a0 a1 a2)).2) = x238)) (.cons rfl (Sub.nil _)) ⟨hL244, hf42_2, h⟩
                      · replace h := Go.L.ite_n (of_decide_eq_false hg236) h
                        refine N_no 9 (np_cut np_body) (by kernel_rfl) rfl rfl rfl rfl hg236 rfl ?_
                        refine N_no 10 (np_cut np_body) (by kernel_rfl) rfl rfl rfl rfl hg236 rfl ?_
                        refine N_no 11 (np_cut np_body) (by kernel_rfl) rfl rfl rfl rfl hg236 rfl ?_
                        refine N_no 12 (np_cut np_body) (by kernel_rfl) rfl rfl rfl rfl hg236 rfl ?_
                        refine N_no 13 (np_cut np_body) (by kernel_rfl) rfl rfl rfl rfl hg236 rfl ?_
                        refine N_no 14 (np_cut np_body) (by kernel_rfl) rfl rfl rfl rfl hg236 rfl ?_
                        refine N_no 15 (np_cut np_body) (by kernel_rfl) rfl rfl rfl rfl hg236 rfl ?_
                        refine N_hoistg 16 (np_cut np_body) (by kernel_rfl) rfl rfl rfl rfl hg233 (fun _ => r_pickF rfl hg236 rfl) rfl ?_
                        refine N_hoist 17 (np_cut np_body) (by kernel_rfl) rfl (fun _ => r_pickF rfl hg233 rfl) rfl ?_
                        refine N_hoist 18 (np_cut np_body) (by kernel_rfl) rfl (fun _ => RunsAt_pu rfl) rfl ?_
                        refine N_end (by kernel_rfl) ?_
                        refine At_cut false (.cons rfl (Sub.nil _)) ⟨hL232, hf42_2, h⟩
                  · rintro s6_228 wr229 ⟨hL229, hf229_0, h⟩
                    refine W_ret ?_
                    obtain rfl := Option.some.inj h
                    refine At_body rfl rfl ?_
                    exact ⟨hL229.ext, rfl⟩
          · replace h := Go.L.ite_p (not_dec_f hg75) h
            refine S_unwanted rfl rfl hg75 rfl ?_
            refine S_unwanted rfl rfl hg75 rfl ?_
            refine S_unwanted rfl rfl hg75 rfl ?_
            refine S_guarded rfl rfl hg72 ?_
            refine S_v (r_pickF rfl hg75 rfl) rfl ?_
            refine S_v (r_pickF rfl hg72 rfl) rfl ?_
            refine S_pu 1 rfl ?_
            refine S_guarded rfl rfl rfl ?_
            refine S_v (r_field rfl Try.underlying25 rfl zr3 (by decide)) rfl ?_
            refine S_guarded rfl rfl rfl ?_
            refine S_v (r_loadB1 0 rfl Try.underlying3 rfl hL65 rfl rfl) rfl ?_
            refine S_guarded rfl rfl rfl ?_
            refine S_v (RunsAt_pu rfl) rfl ?_
            refine S_guarded rfl rfl rfl ?_
            refine S_v (RunsAt_pu rfl) rfl ?_
            refine S_split (s := 81) rfl (fun hg248 => ?_) (fun hg248 => ?_)
            · replace h := Go.L.ite_n (not_dec_t hg248) h
              refine S_guarded rfl rfl hg248 ?_
              refine S_v (r_field rfl Try.underlying32 rfl zr3 (by decide)) rfl ?_
              refine S_guarded rfl rfl hg248 ?_
              refine S_v (r_loadB1 3 rfl Try.underlying3 rfl hL65 rfl rfl) rfl ?_
              refine S_guarded rfl rfl hg248 ?_
              refine S_v (RunsAt_pu rfl) rfl ?_
              refine S_guarded rfl rfl hg248 ?_
              refine S_v (RunsAt_pu rfl) rfl ?_
              refine S_split (s := 85) rfl (fun hg250 => ?_) (fun hg250 => ?_)
              · replace h := Go.L.ite_n (not_dec_t hg250) h
                refine S_unwanted rfl rfl hg250 rfl ?_
                refine S_unwanted rfl rfl hg250 rfl ?_
                refine S_unwanted rfl rfl hg250 rfl ?_
                refine S_unwanted rfl rfl hg250 rfl ?_
                refine S_guarded rfl rfl hg248 ?_
                refine S_v (r_pickT rfl hg250 rfl) rfl ?_
                refine S_guarded rfl rfl rfl ?_
                refine S_v (r_pickT rfl hg248 rfl) rfl ?_
                refine S_v (r_pickF rfl rfl rfl) rfl ?_
                refine S_seqnil ?_
                refine W_true rfl ?_
                refine W_seqr ?_
                refine S_pu 1 rfl ?_
                refine S_seqnil ?_
                refine W_ret ?_
                refine At_seq_ret ?_
                obtain rfl := Option.some.inj h
                refine At_body rfl rfl ?_
                exact ⟨hL65.ext, rfl⟩
              · replace h := Go.L.ite_p (not_dec_f hg250) h
                refine S_guarded rfl rfl hg250 ?_
                refine S_v (r_field rfl Try.underlying32 rfl zr22 (by decide)) rfl ?_
                refine S_guarded rfl rfl hg250 ?_
                refine S_v (r_loadB1 3 rfl Try.underlying22 rfl hL65 rfl rfl) rfl ?_
                refine S_guarded rfl rfl hg250 ?_
                refine S_v (r_len rfl Try.underlying22 hf42_2) rfl ?_
                refine S_guarded rfl rfl hg250 ?_
                refine S_v (RunsAt_pu rfl) rfl ?_
                refine S_guarded rfl rfl hg248 ?_
                refine S_v (r_pickF rfl hg250 rfl) rfl ?_
                refine S_guarded rfl rfl rfl ?_
                refine S_v (r_pickT rfl hg248 rfl) rfl ?_
                refine S_v (r_pickF rfl rfl rfl) rfl ?_
                refine S_seqnil ?_
                refine W_if rfl (fun hc253 => ?_) (fun hc253 => ?_)
                · replace h := Go.L.ite_p hc253 h
                  refine W_seqr ?_
                  refine S_pu 1 rfl ?_
                  refine S_seqnil ?_
                  refine W_ret ?_
                  refine At_seq_ret ?_
                  obtain rfl := Option.some.inj h
                  refine At_body rfl rfl ?_
                  exact ⟨hL65.ext, rfl⟩
                · replace h := Go.L.ite_n hc253 h
                  refine W_skip ?_
                  refine At_seq ?_
                  refine W_seq ?_
                  refine W_seqr ?_
                  refine S_v (r_field rfl Try.underlying25 rfl zr3 (by decide)) rfl ?_
                  refine S_v (r_loadB1 1 rfl Try.underlying3 rfl hL65 rfl rfl) rfl ?_
                  refine S_pu 2 rfl ?_
                  refine S_split (s := 96) rfl (fun hg256 => ?_) (fun hg256 => ?_)
                  · replace h := Go.L.ite_p (of_decide_eq_true hg256) h
                    refine S_guarded rfl rfl hg256 ?_
                    refine S_v (RunsAt_pu rfl) rfl ?_
                    refine S_guarded rfl rfl hg256 ?_
                    refine S_v (RunsAt_pu rfl) rfl ?_
                    refine S_guarded rfl rfl hg256 ?_
                    obtain ⟨x258, hb258, h⟩ := Go.L.bind_some h
                    have hok259 := ref4_Values_ok _ _ (gz_le hH hL65) hfs13_41 hb258
                    rw [show (((0 : UInt8).toNat : Nat) : Int) = 0 from rfl] at hok259
                    refine S_callL rfl rfl hL65 hok259 ?_
                    rintro u259_0 w259 ⟨_, rfl, hR259_0⟩ hx259 hL259 hle259
                    have hv259_0 := hR259_0.vecG hH hL65 hx259
                    replace hf42_0 := hf42_0.mono (gz_mono hH hle259)
                    replace hfs13_41 := hfs13_41.mono (gz_mono hH hle259)
                    replace hf42_2 := hf42_2.mono (gz_mono hH hle259)
                    refine S_guarded rfl rfl hg256 ?_
                    refine S_callL rfl rfl hL259 (same_l _ _ (gz_le hH hL259) hf42_0 hv259_0) ?_
                    rintro _ w260 rfl hx260 hL260 hle260
                    replace hf42_0 := hf42_0.mono (gz_mono hH hle260)
                    replace hfs13_41 := hfs13_41.mono (gz_mono hH hle260)
                    replace hf42_2 := hf42_2.mono (gz_mono hH hle260)
                    replace hv259_0 := hv259_0.mono (gz_mono hH hle260)
                    refine S_guarded rfl rfl hg256 ?_
                    refine S_v (RunsAt_pu rfl) rfl ?_
                    refine S_v (r_pickT rfl hg256 rfl) rfl ?_
                    refine S_seqnil ?_
                    refine W_ifn rfl (fun hc261 => ?_) (fun hc261 => ?_)
                    · replace h := Go.L.ite_n hc261 h
                      refine W_seqr ?_
                      refine S_pu 1 rfl ?_
                      refine S_seqnil ?_
                      refine W_ret ?_
                      refine At_seq_ret ?_
                      obtain rfl := Option.some.inj h
                      refine At_body rfl rfl ?_
                      exact ⟨hL260.ext, rfl⟩
                    · replace h := Go.L.ite_p hc261 h
                      refine W_skip ?_
                      refine At_seq ?_
                      refine W_cut (σ := Bool) (fun (s6_280 : Bool) => [(6, .bool s6_280)]) (fun (s6_280 : Bool) wr => Lcl w [.box b14 [.int .i64 c37, .int .i64 c38] 25, .box b11 [.int .i64 c39, .int .i64 c40] 25, .box b6 [.int .i64 (((M.axF a0 a1 a2)).1), .int .i64 (((M.axF a0 a1 a2)).2)] 25, .box b5 [.int .i64 (((M.axK a0 a1 a2, M.axD a0 a1 a2)).1), u4_0] 32, .box b2 [.int .i64 (((M.jnF a0 a1)).1), .int .i64 (((M.jnF a0 a1)).2)] 25] wr ∧ Vec .byte (gz H w wr [.box b14 [.int .i64 c37, .int .i64 c38] 25, .box b11 [.int .i64 c39, .int .i64 c40] 25, .box b6 [.int .i64 (((M.axF a0 a1 a2)).1), .int .i64 (((M.axF a0 a1 a2)).2)] 25, .box b5 [.int .i64 (((M.axK a0 a1 a2, M.axD a0 a1 a2)).1), u4_0] 32, .box b2 [.int .i64 (((M.jnF a0 a1)).1), .int .i64 (((M.jnF a0 a1)).2)] 25]) (u4_0) (((M.axK a0 a1 a2, M.axD a0 a1 a2)).2) ∧ law4_SharesJoinMatchesSpec_k6 s6_280 = some r) ?_ ?_
                      · refine W_naive mixed rfl (fun w283 hx283 => ?_)
                        have hL284 := hL260.call hx283
                        have hle284 := fz_ext hL260 hx283
                        replace hfs13_41 := hfs13_41.mono (gz_mono hH hle284)
                        replace hf42_2 := hf42_2.mono (gz_mono hH hle284)
                        refine N1 (i := 0) (by kernel_rfl) rfl ?_
                        refine S_v (r_field rfl Try.underlying25 rfl zr3 (by decide)) rfl ?_
                        refine N_nil ?_
                        refine N1 (i := 1) (by kernel_rfl) rfl ?_
                        refine S_v (r_loadB1 0 rfl Try.underlying3 rfl hL284 rfl rfl) rfl ?_
                        refine N_nil ?_
                        refine N_hoist 2 (np_cut np_body) (by kernel_rfl) rfl (fun _ => RunsAt_pu rfl) rfl ?_
                        refine N_hoist 3 (np_cut np_body) (by kernel_rfl) rfl (fun _ => RunsAt_pu rfl) rfl ?_
                        refine N_split (s := 106) rfl (fun hg285 => ?_) (fun hg285 => ?_)
                        · replace h := Go.L.ite_n (not_dec_t hg285) h
                          refine N_no 4 (np_cut np_body) (by kernel_rfl) rfl rfl rfl rfl hg285 rfl ?_
                          refine N_no 5 (np_cut np_body) (by kernel_rfl) rfl rfl rfl rfl hg285 rfl ?_
                          refine N_no 6 (np_cut np_body) (by kernel_rfl) rfl rfl rfl rfl hg285 rfl ?_
                          refine N_no 7 (np_cut np_body) (by kernel_rfl) rfl rfl rfl rfl hg285 rfl ?_
                          refine N_no 8 (np_cut np_body) (by kernel_rfl) rfl rfl rfl rfl hg285 rfl ?_
                          refine N_no2 9 (np_cut np_body) (by kernel_rfl) rfl rfl rfl rfl rfl ?_
                          refine N_no2 10 (np_cut np_body) (by kernel_rfl) rfl rfl rfl rfl rfl ?_
                          refine N_no2 11 (np_cut np_body) (by kernel_rfl) rfl rfl rfl rfl rfl ?_
                          refine N_no2 12 (np_cut np_body) (by kernel_rfl) rfl rfl rfl rfl rfl ?_
                          refine N_no2 13 (np_cut np_body) (by kernel_rfl) rfl rfl rfl rfl rfl ?_
                          refine N_no2 14 (np_cut np_body) (by kernel_rfl) rfl rfl rfl rfl rfl ?_
                          refine N_no2 15 (np_cut np_body) (by kernel_rfl) rfl rfl rfl rfl rfl ?_
                          refine N_no 16 (np_cut np_body) (by kernel_rfl) rfl rfl rfl rfl hg285 rfl ?_
                          refine N_hoist 17 (np_cut np_body) (by kernel_rfl) rfl (fun _ => r_pickT rfl hg285 rfl) rfl ?_
                          refine N_hoist 18 (np_cut np_body) (by kernel_rfl) rfl (fun _ => RunsAt_pu rfl) rfl ?_
                          refine N_end (by kernel_rfl) ?_
                          refine At_cut true (.cons rfl (Sub.nil _)) ⟨hL284, hf42_2, h⟩
                        · replace h := Go.L.ite_p (not_dec_f hg285) h
                          refine N_hoistg 6 (np_cut np_body) (by kernel_rfl) rfl rfl rfl rfl hg285 (fun _ => RunsAt_pu rfl) rfl ?_
                          refine N1 (i := 4) (by kernel_rfl) rfl ?_
                          refine S_guarded rfl rfl hg285 ?_
                          refine S_v (r_field rfl Try.underlying32 rfl zr3 (by decide)) rfl ?_
                          refine N_nil ?_
                          refine N1 (i := 5) (by kernel_rfl) rfl ?_
                          refine S_guarded rfl rfl hg285 ?_
                          refine S_v (r_loadB1 3 rfl Try.underlying3 rfl hL284 rfl rfl) rfl ?_
                          refine N_nil ?_
                          refine N_hoistg 7 (np_cut np_body) (by kernel_rfl) rfl rfl rfl rfl hg285 (fun _ => RunsAt_pu rfl) rfl ?_
                          refine N_hoistg 8 (np_cut np_body) (by kernel_rfl) rfl rfl rfl rfl hg285 (fun _ => RunsAt_pu rfl) rfl ?_
                          refine N_split (s := 111) rfl (fun hg288 => ?_) (fun hg288 => ?_)
                          · replace h := Go.L.ite_p (of_decide_eq_true hg288) h
                            refine N_hoistg 11 (np_cut np_body) (by kernel_rfl) rfl rfl rfl rfl hg288 (fun _ => RunsAt_pu rfl) rfl ?_
                            refine N_hoistg 12 (np_cut np_body) (by kernel_rfl) rfl rfl rfl rfl hg288 (fun _ => RunsAt_pu rfl) rfl ?_
                            refine N_hoistg 13 (np_cut np_body) (by kernel_rfl) rfl rfl rfl rfl hg288 (fun _ => r_conv Try.underlying3 Try.underlying5 rfl (conv_64_u8 _)) rfl ?_
                            refine N2 (i := 9) (j := 14) (by kernel_rfl) rfl rfl ?_ ?_
                            · refine S_guarded rfl rfl hg288 ?_
                              refine S_v (r_field rfl Try.underlying32 rfl zr22 (by decide)) rfl ?_
                              refine N_nil ?_
                              refine N2 (i := 10) (j := 14) (by kernel_rfl) rfl rfl ?_ ?_
                              · refine S_guarded rfl rfl hg288 ?_
                                refine S_v (r_loadB1 3 rfl Try.underlying22 rfl hL284 rfl rfl) rfl ?_
                                refine N_nil ?_
                                refine N1 (i := 14) (by kernel_rfl) rfl ?_
                                refine S_guarded rfl rfl hg288 ?_
                                obtain ⟨x290, hb290, h⟩ := Go.L.bind_some h
                                refine S_callL rfl rfl hL284 (ref4_Values_ok _ _ (gz_le hH hL284) hfs13_41 hb290) ?_
                                rintro u291_0 w291 ⟨_, rfl, hR291_0⟩ hx291 hL291 hle291
                                have hv291_0 := hR291_0.vecG hH hL284 hx291
                                replace hfs13_41 := hfs13_41.mono (gz_mono hH hle291)
                                replace hf42_2 := hf42_2.mono (gz_mono hH hle291)
                                refine N_nil ?_
                                refine N1 (i := 15) (by kernel_rfl) rfl ?_
                                refine S_guarded rfl rfl hg288 ?_
                                refine S_callL rfl rfl hL291 (same_l _ _ (gz_le hH hL291) hf42_2 hv291_0) ?_
                                rintro _ w292 rfl hx292 hL292 hle292
                                replace hfs13_41 := hfs13_41.mono (gz_mono hH hle292)
                                replace hf42_2 := hf42_2.mono (gz_mono hH hle292)
                                replace hv291_0 := hv291_0.mono (gz_mono hH hle292)
                                refine N_nil ?_
                                refine N_hoistg 16 (np_cut np_body) (by kernel_rfl) rfl rfl rfl rfl hg285 (fun _ => r_pickT rfl hg288 rfl) rfl ?_
                                refine N_hoist 17 (np_cut np_body) (by kernel_rfl) rfl (fun _ => r_pickF rfl hg285 rfl) rfl ?_
                                refine N_hoist 18 (np_cut np_body) (by kernel_rfl) rfl (fun _ => RunsAt_pu rfl) rfl ?_
                                refine N_end (by kernel_rfl) ?_
                                refine At_cut (decide ((((M.axK a0 a1 a2, M.axD a0 a1 a2)).2) = x290)) (.cons rfl (Sub.nil _)) ⟨hL292, hf42_2, h⟩
                              · obtain ⟨x290, hb290, h⟩ := Go.L.bind_some h
                                refine S_guarded rfl rfl hg288 ?_
                                refine S_callL rfl rfl hL284 (ref4_Values_ok _ _ (gz_le hH hL284) hfs13_41 hb290) ?_
                                rintro u293_0 w293 ⟨_, rfl, hR293_0⟩ hx293 hL293 hle293
                                have hv293_0 := hR293_0.vecG hH hL284 hx293
                                replace hfs13_41 := hfs13_41.mono (gz_mono hH hle293)
                                replace hf42_2 := hf42_2.mono (gz_mono hH hle293)
                                refine N_nil ?_
                                refine N1 (i := 10) (by kernel_rfl) rfl ?_
                                refine S_guarded rfl rfl hg288 ?_
                                refine S_v (r_loadB1 3 rfl Try.underlying22 rfl hL293 rfl rfl) rfl ?_
                                refine N_nil ?_
                                refine N1 (i := 15) (by kernel_rfl) rfl ?_
                                refine S_guarded rfl rfl hg288 ?_
                                refine S_callL rfl rfl hL293 (same_l _ _ (gz_le hH hL293) hf42_2 hv293_0) ?_
                                rintro _ w294 rfl hx294 hL294 hle294
                                replace hfs13_41 := hfs13_41.mono (gz_mono hH hle294)
                                replace hf42_2 := hf42_2.mono (gz_mono hH hle294)
                                replace hv293_0 := hv293_0.mono (gz_mono hH hle294)
                                refine N_nil ?_
                                refine N_hoistg 16 (np_cut np_body) (by kernel_rfl) rfl rfl rfl rfl hg285 (fun _ => r_pickT rfl hg288 rfl) rfl ?_
                                refine N_hoist 17 (np_cut np_body) (by kernel_rfl) rfl (fun _ => r_pickF rfl hg285 rfl) rfl ?_
                                refine N_hoist 18 (np_cut np_body) (by kernel_rfl) rfl (fun _ => RunsAt_pu rfl) rfl ?_
                                refine N_end (by kernel_rfl) ?_
                                refine At_cut (decide ((((M.axK a0 a1 a2, M.axD a0 a1 a2)).2) = x290)) (.cons rfl (Sub.nil _)) ⟨hL294, hf42_2, h⟩
                            · obtain ⟨x290, hb290, h⟩ := Go.L.bind_some h
                              refine S_guarded rfl rfl hg288 ?_
                              refine S_callL rfl rfl hL284 (ref4_Values_ok _ _ (gz_le hH hL284) hfs13_41 hb290) ?_
                              rintro u295_0 w295 ⟨_, rfl, hR295_0⟩ hx295 hL295 hle295
                              have hv295_0 := hR295_0.vecG hH hL284 hx295
                              replace hfs13_41 := hfs13_41.mono (gz_mono hH hle295)
                              replace hf42_2 := hf42_2.mono (gz_mono hH hle295)
                              refine N_nil ?_
                              refine N1 (i := 9) (by kernel_rfl) rfl ?_
                              refine S_guarded rfl rfl hg288 ?_
                              refine S_v (r_field rfl Try.underlying32 rfl zr22 (by decide)) rfl ?_
                              refine N_nil ?_
                              refine N1 (i := 10) (by kernel_rfl) rfl ?_
                              refine S_guarded rfl rfl hg288 ?_
                              refine S_v (r_loadB1 3 rfl Try.underlying22 rfl hL295 rfl rfl) rfl ?_
                              refine N_nil ?_
                              refine N1 (i := 15) (by kernel_rfl) rfl ?_
                              refine S_guarded rfl rfl hg288 ?_
                              refine S_callL rfl rfl hL295 (same_l _ _ (gz_le hH hL295) hf42_2 hv295_0) ?_
                              rintro _ w296 rfl hx296 hL296 hle296
                              replace hfs13_41 := hfs13_41.mono (gz_mono hH hle296)
                              replace hf42_2 := hf42_2.mono (gz_mono hH hle296)
                              replace hv295_0 := hv295_0.mono (gz_mono hH hle296)
                              refine N_nil ?_
                              refine N_hoistg 16 (np_cut np_body) (by kernel_rfl) rfl rfl rfl rfl hg285 (fun _ => r_pickT rfl hg288 rfl) rfl ?_
                              refine N_hoist 17 (np_cut np_body) (by kernel_rfl) rfl (fun _ => r_pickF rfl hg285 rfl) rfl ?_
                              refine N_hoist 18 (np_cut np_body) (by kernel_rfl) rfl (fun _ => RunsAt_pu rfl) rfl ?_
                              refine N_end (by kernel_rfl) ?_
                              refine At_cut (decide ((((M.axK a0 a1 a2, M.axD a0 a1 a2)).2) = x290)) (.cons rfl (Sub.nil _)) ⟨hL296, hf42_2, h⟩
                          · replace h := Go.L.ite_n (of_decide_eq_false hg288) h
                            refine N_no 9 (np_cut np_body) (by kernel_rfl) rfl rfl rfl rfl hg288 rfl ?_
                            refine N_no 10 (np_cut np_body) (by kernel_rfl) rfl rfl rfl rfl hg288 rfl ?_
                            refine N_no 11 (np_cut np_body) (by kernel_rfl) rfl rfl rfl rfl hg288 rfl ?_
                            refine N_no 12 (np_cut np_body) (by kernel_rfl) rfl rfl rfl rfl hg288 rfl ?_
                            refine N_no 13 (np_cut np_body) (by kernel_rfl) rfl rfl rfl rfl hg288 rfl ?_
                            refine N_no 14 (np_cut np_body) (by kernel_rfl) rfl rfl rfl rfl hg288 rfl ?_
                            refine N_no 15 (np_cut np_body) (by kernel_rfl) rfl rfl rfl rfl hg288 rfl ?_
                            refine N_hoistg 16 (np_cut np_body) (by kernel_rfl) rfl rfl rfl rfl hg285 (fun _ => r_pickF rfl hg288 rfl) rfl ?_
                            refine N_hoist 17 (np_cut np_body) (by kernel_rfl) rfl (fun _ => r_pickF rfl hg285 rfl) rfl ?_
                            refine N_hoist 18 (np_cut np_body) (by kernel_rfl) rfl (fun _ => RunsAt_pu rfl) rfl ?_
                            refine N_end (by kernel_rfl) ?_
                            refine At_cut false (.cons rfl (Sub.nil _)) ⟨hL284, hf42_2, h⟩
                      · rintro s6_280 wr281 ⟨hL281, hf281_0, h⟩
                        refine W_ret ?_
                        obtain rfl := Option.some.inj h
                        refine At_body rfl rfl ?_
                        exact ⟨hL281.ext, rfl⟩
                  · replace h := Go.L.ite_n (of_decide_eq_false hg256) h
                    refine S_unwanted rfl rfl hg256 rfl ?_
                    refine S_unwanted rfl rfl hg256 rfl ?_
                    refine S_unwanted rfl rfl hg256 rfl ?_
                    refine S_unwanted rfl rfl hg256 rfl ?_
                    refine S_unwanted rfl rfl hg256 rfl ?_
                    refine S_v (r_pickF rfl hg256 rfl) rfl ?_
                    refine S_seqnil ?_
                    refine W_false rfl ?_
                    refine W_skip ?_
                    refine At_seq ?_
                    refine W_cut (σ := Bool) (fun (s6_316 : Bool) => [(6, .bool s6_316)]) (fun (s6_316 : Bool) wr => Lcl w [.box b14 [.int .i64 c37, .int .i64 c38] 25, .box b11 [.int .i64 c39, .int .i64 c40] 25, .box b6 [.int .i64 (((M.axF a0 a1 a2)).1), .int .i64 (((M.axF a0 a1 a2)).2)] 25, .box b5 [.int .i64 (((M.axK a0 a1 a2, M.axD a0 a1 a2)).1), u4_0] 32, .box b2 [.int .i64 (((M.jnF a0 a1)).1), .int .i64 (((M.jnF a0 a1)).2)] 25] wr ∧ Vec .byte (gz H w wr [.box b14 [.int .i64 c37, .int .i64 c38] 25, .box b11 [.int .i64 c39, .int .i64 c40] 25, .box b6 [.int .i64 (((M.axF a0 a1 a2)).1), .int .i64 (((M.axF a0 a1 a2)).2)] 25, .box b5 [.int .i64 (((M.axK a0 a1 a2, M.axD a0 a1 a2)).1), u4_0] 32, .box b2 [.int .i64 (((M.jnF a0 a1)).1), .int .i64 (((M.jnF a0 a1)).2)] 25]) (u4_0) (((M.axK a0 a1 a2, M.axD a0 a1 a2)).2) ∧ law4_SharesJoinMatchesSpec_k7 s6_316 = some r) ?_ ?_
                    · refine W_naive mixed rfl (fun w319 hx319 => ?_)
                      have hL320 := hL65.call hx319
                      have hle320 := fz_ext hL65 hx319
                      replace hfs13_41 := hfs13_41.mono (gz_mono hH hle320)
                      replace hf42_2 := hf42_2.mono (gz_mono hH hle320)
                      refine N1 (i := 0) (by kernel_rfl) rfl ?_
                      refine S_v (r_field rfl Try.underlying25 rfl zr3 (by decide)) rfl ?_
                      refine N_nil ?_
                      refine N1 (i := 1) (by kernel_rfl) rfl ?_
                      refine S_v (r_loadB1 0 rfl Try.underlying3 rfl hL320 rfl rfl) rfl ?_
                      refine N_nil ?_
                      refine N_hoist 2 (np_cut np_body) (by kernel_rfl) rfl (fun _ => RunsAt_pu rfl) rfl ?_
                      refine N_hoist 3 (np_cut np_body) (by kernel_rfl) rfl (fun _ => RunsAt_pu rfl) rfl ?_
                      refine N_split (s := 106) rfl (fun hg321 => ?_) (fun hg321 => ?_)
                      · replace h := Go.L.ite_n (not_dec_t hg321) h
                        refine N_no 4 (np_cut np_body) (by kernel_rfl) rfl rfl rfl rfl hg321 rfl ?_
                        refine N_no 5 (np_cut np_body) (by kernel_rfl) rfl rfl rfl rfl hg321 rfl ?_
                        refine N_no 6 (np_cut np_body) (by kernel_rfl) rfl rfl rfl rfl hg321 rfl ?_
                        refine N_no 7 (np_cut np_body) (by kernel_rfl) rfl rfl rfl rfl hg321 rfl ?_
                        refine N_no 8 (np_cut np_body) (by kernel_rfl) rfl rfl rfl rfl hg321 rfl ?_
                        refine N_no2 9 (np_cut np_body) (by kernel_rfl) rfl rfl rfl rfl rfl ?_
                        refine N_no2 10 (np_cut np_body) (by kernel_rfl) rfl rfl rfl rfl rfl ?_
                        refine N_no2 11 (np_cut np_body) (by kernel_rfl) rfl rfl rfl rfl rfl ?_
                        refine N_no2 12 (np_cut np_body) (by kernel_rfl) rfl rfl rfl rfl rfl ?_
                        refine N_no2 13 (np_cut np_body) (by kernel_rfl) rfl rfl rfl rfl rfl ?_
                        refine N_no2 14 (np_cut np_body) (by kernel_rfl) rfl rfl rfl rfl rfl ?_
                        refine N_no2 15 (np_cut np_body) (by kernel_rfl) rfl rfl rfl rfl rfl ?_
                        refine N_no 16 (np_cut np_body) (by kernel_rfl) rfl rfl rfl rfl hg321 rfl ?_
                        refine N_hoist 17 (np_cut np_body) (by kernel_rfl) rfl (fun _ => r_pickT rfl hg321 rfl) rfl ?_
                        refine N_hoist 18 (np_cut np_body) (by kernel_rfl) rfl (fun _ => RunsAt_pu rfl) rfl ?_
                        refine N_end (by kernel_rfl) ?_
                        refine At_cut true (.cons rfl (Sub.nil _)) ⟨hL320, hf42_2, h⟩
                      · replace h := Go.L.ite_p (not_dec_f hg321) h
                        refine N_hoistg 6 (np_cut np_body) (by kernel_rfl) rfl rfl rfl rfl hg321 (fun _ => RunsAt_pu rfl) rfl ?_
                        refine N1 (i := 4) (by kernel_rfl) rfl ?_
                        refine S_guarded rfl rfl hg321 ?_
                        refine S_v (r_field rfl Try.underlying32 rfl zr3 (by decide)) rfl ?_
                        refine N_nil ?_
                        refine N1 (i := 5) (by kernel_rfl) rfl ?_
                        refine S_guarded rfl rfl hg321 ?_
                        refine S_v (r_loadB1 3 rfl Try.underlying3 rfl hL320 rfl rfl) rfl ?_
                        refine N_nil ?_
                        refine N_hoistg 7 (np_cut np_body) (by kernel_rfl) rfl rfl rfl rfl hg321 (fun _ => RunsAt_pu rfl) rfl ?_
                        refine N_hoistg 8 (np_cut np_body) (by kernel_rfl) rfl rfl rfl rfl hg321 (fun _ => RunsAt_pu rfl) rfl ?_
                        refine N_split (s := 111) rfl (fun hg324 => ?_) (fun hg324 => ?_)
                        · replace h := Go.L.ite_p (of_decide_eq_true hg324) h
                          refine N_hoistg 11 (np_cut np_body) (by kernel_rfl) rfl rfl rfl rfl hg324 (fun _ => RunsAt_pu rfl) rfl ?_
                          refine N_hoistg 12 (np_cut np_body) (by kernel_rfl) rfl rfl rfl rfl hg324 (fun _ => RunsAt_pu rfl) rfl ?_
                          refine N_hoistg 13 (np_cut np_body) (by kernel_rfl) rfl rfl rfl rfl hg324 (fun _ => r_conv Try.underlying3 Try.underlying5 rfl (conv_64_u8 _)) rfl ?_
                          refine N2 (i := 9) (j := 14) (by kernel_rfl) rfl rfl ?_ ?_
                          · refine S_guarded rfl rfl hg324 ?_
                            refine S_v (r_field rfl Try.underlying32 rfl zr22 (by decide)) rfl ?_
                            refine N_nil ?_
                            refine N2 (i := 10) (j := 14) (by kernel_rfl) rfl rfl ?_ ?_
                            · refine S_guarded rfl rfl hg324 ?_
                              refine S_v (r_loadB1 3 rfl Try.underlying22 rfl hL320 rfl rfl) rfl ?_
                              refine N_nil ?_
                              refine N1 (i := 14) (by kernel_rfl) rfl ?_
                              refine S_guarded rfl rfl hg324 ?_
                              obtain ⟨x326, hb326, h⟩ := Go.L.bind_some h
                              refine S_callL rfl rfl hL320 (ref4_Values_ok _ _ (gz_le hH hL320) hfs13_41 hb326) ?_
                              rintro u327_0 w327 ⟨_, rfl, hR327_0⟩ hx327 hL327 hle327
                              have hv327_0 := hR327_0.vecG hH hL320 hx327
                              replace hfs13_41 := hfs13_41.mono (gz_mono hH hle327)
                              replace hf42_2 := hf42_2.mono (gz_mono hH hle327)
                              refine N_nil ?_
                              refine N1 (i := 15) (by kernel_rfl) rfl ?_
                              refine S_guarded rfl rfl hg324 ?_
                              refine S_callL rfl rfl hL327 (same_l _ _ (gz_le hH hL327) hf42_2 hv327_0) ?_
                              rintro _ w328 rfl hx328 hL328 hle328
                              replace hfs13_41 := hfs13_41.mono (gz_mono hH hle328)
                              replace hf42_2 := hf42_2.mono (gz_mono hH hle328)
                              replace hv327_0 := hv327_0.mono (gz_mono hH hle328)
                              refine N_nil ?_
                              refine N_hoistg 16 (np_cut np_body) (by kernel_rfl) rfl rfl rfl rfl hg321 (fun _ => r_pickT rfl hg324 rfl) rfl ?_
                              refine N_hoist 17 (np_cut np_body) (by kernel_rfl) rfl (fun _ => r_pickF rfl hg321 rfl) rfl ?_
                              refine N_hoist 18 (np_cut np_body) (by kernel_rfl) rfl (fun _ => RunsAt_pu rfl) rfl ?_
                              refine N_end (by kernel_rfl) ?_
                              refine At_cut (decide ((((M.axK a0 a1 a2, M.axD a0 a1 a2)).2) = x326)) (.cons rfl (Sub.nil _)) ⟨hL328, hf42_2, h⟩
                            · obtain ⟨x326, hb326, h⟩ := Go.L.bind_some h
                              refine S_guarded rfl rfl hg324 ?_
                              refine S_callL rfl rfl hL320 (ref4_Values_ok _ _ (gz_le hH hL320) hfs13_41 hb326) ?_
                              rintro u329_0 w329 ⟨_, rfl, hR329_0⟩ hx329 hL329 hle329
                              have hv329_0 := hR329_0.vecG hH hL320 hx329
                              replace hfs13_41 := hfs13_41.mono (gz_mono hH hle329)
                              replace hf42_2 := hf42_2.mono (gz_mono hH hle329)
                              refine N_nil ?_
                              refine N1 (i := 10) (by kernel_rfl) rfl ?_
                              refine S_guarded rfl rfl hg324 ?_
                              refine S_v (r_loadB1 3 rfl Try.underlying22 rfl hL329 rfl rfl) rfl ?_
                              refine N_nil ?_
                              refine N1 (i := 15) (by kernel_rfl) rfl ?_
                              refine S_guarded rfl rfl hg324 ?_
                              refine S_callL rfl rfl hL329 (same_l _ _ (gz_le hH hL329) hf42_2 hv329_0) ?_
                              rintro _ w330 rfl hx330 hL330 hle330
                              replace hfs13_41 := hfs13_41.mono (gz_mono hH hle330)
                              replace hf42_2 := hf42_2.mono (gz_mono hH hle330)
                              replace hv329_0 := hv329_0.mono (gz_mono hH hle330)
                              refine N_nil ?_
                              refine N_hoistg 16 (np_cut np_body) (by kernel_rfl) rfl rfl rfl rfl hg321 (fun _ => r_pickT rfl hg324 rfl) rfl ?_
                              refine N_hoist 17 (np_cut np_body) (by kernel_rfl) rfl (fun _ => r_pickF rfl hg321 rfl) rfl ?_
                              refine N_hoist 18 (np_cut np_body) (by kernel_rfl) rfl (fun _ => RunsAt_pu rfl) rfl ?_
                              refine N_end (by kernel_rfl) ?_
                              refine At_cut (decide ((((M.axK a0 a1 a2, M.axD a0 a1 a2)).2) = x326)) (.cons rfl (Sub.nil _)) ⟨hL330, hf42_2, h⟩
                          · obtain ⟨x326, hb326, h⟩ := Go.L.bind_some h
                            refine S_guarded rfl rfl hg324 ?_
                            refine S_callL rfl rfl hL320 (ref4_Values_ok _ _ (gz_le hH hL320) hfs13_41 hb326) ?_
                            rintro u331_0 w331 ⟨_, rfl, hR331_0⟩ hx331 hL331 hle331
                            have hv331_0 := hR331_0.vecG hH hL320 hx331
                            replace hfs13_41 := hfs13_41.mono (gz_mono hH hle331)
                            replace hf42_2 := hf42_2.mono (gz_mono hH hle331)
                            refine N_nil ?_
                            refine N1 (i := 9) (by kernel_rfl) rfl ?_
                            refine S_guarded rfl rfl hg324 ?_
                            refine S_v (r_field rfl Try.underlying32 rfl zr22 (by decide)) rfl ?_
                            refine N_nil ?_
                            refine N1 (i := 10) (by kernel_rfl) rfl ?_
                            refine S_guarded rfl rfl hg324 ?_
                            refine S_v (r_loadB1 3 rfl Try.underlying22 rfl hL331 rfl rfl) rfl ?_
                            refine N_nil ?_
                            refine N1 (i := 15) (by kernel_rfl) rfl ?_
                            refine S_guarded rfl rfl hg324 ?_
                            refine S_callL rfl rfl hL331 (same_l _ _ (gz_le hH hL331) hf42_2 hv331_0) ?_
                            rintro _ w332 rfl hx332 hL332 hle332
                            replace hfs13_41 := hfs13_41.mono (gz_mono hH hle332)
                            replace hf42_2 := hf42_2.mono (gz_mono hH hle332)
                            replace hv331_0 := hv331_0.mono (gz_mono hH hle332)
                            refine N_nil ?_
                            refine N_hoistg 16 (np_cut np_body) (by kernel_rfl) rfl rfl rfl rfl hg321 (fun _ => r_pickT rfl hg324 rfl) rfl ?_
                            refine N_hoist 17 (np_cut np_body) (by kernel_rfl) rfl (fun _ => r_pickF rfl hg321 rfl) rfl ?_
                            refine N_hoist 18 (np_cut np_body) (by kernel_rfl) rfl (fun _ => RunsAt_pu rfl) rfl ?_
                            refine N_end (by kernel_rfl) ?_
                            refine At_cut (decide ((((M.axK a0 a1 a2, M.axD a0 a1 a2)).2) = x326)) (.cons rfl (Sub.nil _)) ⟨hL332, hf42_2, h⟩
                        · replace h := Go.L.ite_n (of_decide_eq_false hg324) h
                          refine N_no 9 (np_cut np_body) (by kernel_rfl) rfl rfl rfl rfl hg324 rfl ?_
                          refine N_no 10 (np_cut np_body) (by kernel_rfl) rfl rfl rfl rfl hg324 rfl ?_
                          refine N_no 11 (np_cut np_body) (by kernel_rfl) rfl rfl rfl rfl hg324 rfl ?_
                          refine N_no 12 (np_cut np_body) (by kernel_rfl) rfl rfl rfl rfl hg324 rfl ?_
                          refine N_no 13 (np_cut np_body) (by kernel_rfl) rfl rfl rfl rfl hg324 rfl ?_
                          refine N_no 14 (np_cut np_body) (by kernel_rfl) rfl rfl rfl rfl hg324 rfl ?_
                          refine N_no 15 (np_cut np_body) (by kernel_rfl) rfl rfl rfl rfl hg324 rfl ?_
                          refine N_hoistg 16 (np_cut np_body) (by kernel_rfl) rfl rfl rfl rfl hg321 (fun _ => r_pickF rfl hg324 rfl) rfl ?_
                          refine N_hoist 17 (np_cut np_body) (by kernel_rfl) rfl (fun _ => r_pickF rfl hg321 rfl) rfl ?_
                          refine N_hoist 18 (np_cut np_body) (by kernel_rfl) rfl (fun _ => RunsAt_pu rfl) rfl ?_
                          refine N_end (by kernel_rfl) ?_
                          refine At_cut false (.cons rfl (Sub.nil _)) ⟨hL320, hf42_2, h⟩
                    · rintro s6_316 wr317 ⟨hL317, hf317_0, h⟩
                      refine W_ret ?_
                      obtain rfl := Option.some.inj h
                      refine At_body rfl rfl ?_
                      exact ⟨hL317.ext, rfl⟩
            · replace h := Go.L.ite_p (not_dec_f hg248) h
              refine S_unwanted rfl rfl hg248 rfl ?_
              refine S_unwanted rfl rfl hg248 rfl ?_
              refine S_unwanted rfl rfl hg248 rfl ?_
              refine S_unwanted rfl rfl hg248 rfl ?_
              refine S_unwanted2 rfl rfl rfl ?_
              refine S_unwanted2 rfl rfl rfl ?_
              refine S_unwanted2 rfl rfl rfl ?_
              refine S_unwanted2 rfl rfl rfl ?_
              refine S_unwanted rfl rfl hg248 rfl ?_
              refine S_guarded rfl rfl rfl ?_
              refine S_v (r_pickF rfl hg248 rfl) rfl ?_
              refine S_v (r_pickF rfl rfl rfl) rfl ?_
              refine S_seqnil ?_
              refine W_false rfl ?_
              refine W_skip ?_
              refine At_seq ?_
              refine W_seq ?_
              refine W_seqr ?_
              refine S_v (r_field rfl Try.underlying25 rfl zr3 (by decide)) rfl ?_
              refine S_v (r_loadB1 1 rfl Try.underlying3 rfl hL65 rfl rfl) rfl ?_
              refine S_pu 2 rfl ?_
              refine S_split (s := 96) rfl (fun hg336 => ?_) (fun hg336 => ?_)
              · replace h := Go.L.ite_p (of_decide_eq_true hg336) h
                refine S_guarded rfl rfl hg336 ?_
                refine S_v (RunsAt_pu rfl) rfl ?_
                refine S_guarded rfl rfl hg336 ?_
                refine S_v (RunsAt_pu rfl) rfl ?_
                refine S_guarded rfl rfl hg336 ?_
                obtain ⟨x338, hb338, h⟩ := Go.L.bind_some h
                have hok339 := ref4_Values_ok _ _ (gz_le hH hL65) hfs13_41 hb338
                rw [show (((0 : UInt8).toNat : Nat) : Int) = 0 from rfl] at hok339
                refine S_callL rfl rfl hL65 hok339 ?_
                rintro u339_0 w339 ⟨_, rfl, hR339_0⟩ hx339 hL339 hle339
                have hv339_0 := hR339_0.vecG hH hL65 hx339
                replace hf42_0 := hf42_0.mono (gz_mono hH hle339)
                replace hfs13_41 := hfs13_41.mono (gz_mono hH hle339)
                replace hf42_2 := hf42_2.mono (gz_mono hH hle339)
                refine S_guarded rfl rfl hg336 ?_
                refine S_callL rfl rfl hL339 (same_l _ _ (gz_le hH hL339) hf42_0 hv339_0) ?_
                rintro _ w340 rfl hx340 hL340 hle340
                replace hf42_0 := hf42_0.mono (gz_mono hH hle340)
                replace hfs13_41 := hfs13_41.mono (gz_mono hH hle340)
                replace hf42_2 := hf42_2.mono (gz_mono hH hle340)
                replace hv339_0 := hv339_0.mono (gz_mono hH hle340)
                refine S_guarded rfl rfl hg336 ?_
                refine S_v (RunsAt_pu rfl) rfl ?_
                refine S_v (r_pickT rfl hg336 rfl) rfl ?_
                refine S_seqnil ?_
                refine W_ifn rfl (fun hc341 => ?_) (fun hc341 => ?_)
                · replace h := Go.L.ite_n hc341 h
                  refine W_seqr ?_
                  refine S_pu 1 rfl ?_
                  refine S_seqnil ?_
                  refine W_ret ?_
                  refine At_seq_ret ?_
                  obtain rfl := Option.some.inj h
                  refine At_body rfl rfl ?_
                  exact ⟨hL340.ext, rfl⟩
                · replace h := Go.L.ite_p hc341 h
                  refine W_skip ?_
                  refine At_seq ?_
                  refine W_cut (σ := Bool) (fun (s6_360 : Bool) => [(6, .bool s6_360)]) (fun (s6_360 : Bool) wr => Lcl w [.box b14 [.int .i64 c37, .int .i64 c38] 25, .box b11 [.int .i64 c39, .int .i64 c40] 25, .box b6 [.int .i64 (((M.axF a0 a1 a2)).1), .int .i64 (((M.axF a0 a1 a2)).2)] 25, .box b5 [.int .i64 (((M.axK a0 a1 a2, M.axD a0 a1 a2)).1), u4_0] 32, .box b2 [.int .i64 (((M.jnF a0 a1)).1), .int .i64 (((M.jnF a0 a1)).2)] 25] wr ∧ Vec .byte (gz H w wr [.box b14 [.int .i64 c37, .int .i64 c38] 25, .box b11 [.int .i64 c39, .int .i64 c40] 25, .box b6 [.int .i64 (((M.axF a0 a1 a2)).1), .int .i64 (((M.axF a0 a1 a2)).2)] 25, .box b5 [.int .i64 (((M.axK a0 a1 a2, M.axD a0 a1 a2)).1), u4_0] 32, .box b2 [.int .i64 (((M.jnF a0 a1)).1), .int .i64 (((M.jnF a0 a1)).2)] 25]) (u4_0) (((M.axK a0 a1 a2, M.axD a0 a1 a2)).2) ∧ law4_SharesJoinMatchesSpec_k8 s6_360 = some r) ?_ ?_
                  · refine W_naive mixed rfl (fun w363 hx363 => ?_)
                    have hL364 := hL340.call hx363
                    have hle364 := fz_ext hL340 hx363
                    replace hfs13_41 := hfs13_41.mono (gz_mono hH hle364)
                    replace hf42_2 := hf42_2.mono (gz_mono hH hle364)
                    refine N1 (i := 0) (by kernel_rfl) rfl ?_
                    refine S_v (r_field rfl Try.underlying25 rfl zr3 (by decide)) rfl ?_
                    refine N_nil ?_
                    refine N1 (i := 1) (by kernel_rfl) rfl ?_
                    refine S_v (r_loadB1 0 rfl Try.underlying3 rfl hL364 rfl rfl) rfl ?_
                    refine N_nil ?_
                    refine N_hoist 2 (np_cut np_body) (by kernel_rfl) rfl (fun _ => RunsAt_pu rfl) rfl ?_
                    refine N_hoist 3 (np_cut np_body) (by kernel_rfl) rfl (fun _ => RunsAt_pu rfl) rfl ?_
                    refine N_split (s := 106) rfl (fun hg365 => ?_) (fun hg365 => ?_)
                    · replace h := Go.L.ite_n (not_dec_t hg365) h
                      refine N_no 4 (np_cut np_body) (by kernel_rfl) rfl rfl rfl rfl hg365 rfl ?_
                      refine N_no 5 (np_cut np_body) (by kernel_rfl) rfl rfl rfl rfl hg365 rfl ?_
                      refine N_no 6 (np_cut np_body) (by kernel_rfl) rfl rfl rfl rfl hg365 rfl ?_
                      refine N_no 7 (np_cut np_body) (by kernel_rfl) rfl rfl rfl rfl hg365 rfl ?_
                      refine N_no 8 (np_cut np_body) (by kernel_rfl) rfl rfl rfl rfl hg365 rfl ?_
                      refine N_no2 9 (np_cut np_body) (by kernel_rfl) rfl rfl rfl rfl rfl ?_
                      refine N_no2 10 (np_cut np_body) (by kernel_rfl) rfl rfl rfl rfl rfl ?_
                      refine N_no2 11 (np_cut np_body) (by kernel_rfl) rfl rfl rfl rfl rfl ?_
                      refine N_no2 12 (np_cut np_body) (by kernel_rfl) rfl rfl rfl rfl rfl ?_
                      refine N_no2 13 (np_cut np_body) (by kernel_rfl) rfl rfl rfl rfl rfl ?_
                      refine N_no2 14 (np_cut np_body) (by kernel_rfl) rfl rfl rfl rfl rfl ?_
                      refine N_no2 15 (np_cut np_body) (by kernel_rfl) rfl rfl rfl rfl rfl ?_
                      refine N_no 16 (np_cut np_body) (by kernel_rfl) rfl rfl rfl rfl hg365 rfl ?_
                      refine N_hoist 17 (np_cut np_body) (by kernel_rfl) rfl (fun _ => r_pickT rfl hg365 rfl) rfl ?_
                      refine N_hoist 18 (np_cut np_body) (by kernel_rfl) rfl (fun _ => RunsAt_pu rfl) rfl ?_
                      refine N_end (by kernel_rfl) ?_
                      refine At_cut true (.cons rfl (Sub.nil _)) ⟨hL364, hf42_2, h⟩
                    · replace h := Go.L.ite_p (not_dec_f hg365) h
                      refine N_hoistg 6 (np_cut np_body) (by kernel_rfl) rfl rfl rfl rfl hg365 (fun _ => RunsAt_pu rfl) rfl ?_
                      refine N1 (i := 4) (by kernel_rfl) rfl ?_
                      refine S_guarded rfl rfl hg365 ?_
                      refine S_v (r_field rfl Try.underlying32 rfl zr3 (by decide)) rfl ?_
                      refine N_nil ?_
                      refine N1 (i := 5) (by kernel_rfl) rfl ?_
                      refine S_guarded rfl rfl hg365 ?_
                      refine S_v (r_loadB1 3 rfl Try.underlying3 rfl hL364 rfl rfl) rfl ?_
                      refine N_nil ?_
                      refine N_hoistg 7 (np_cut np_body) (by kernel_rfl) rfl rfl rfl rfl hg365 (fun _ => RunsAt_pu rfl) rfl ?_
                      refine N_hoistg 8 (np_cut np_body) (by kernel_rfl) rfl rfl rfl rfl hg365 (fun _ => RunsAt_pu rfl) rfl ?_
                      refine N_split (s := 111) rfl (fun hg368 => ?_) (fun hg368 => ?_)
                      · replace h := Go.L.ite_p (of_decide_eq_true hg368) h
                        refine N_hoistg 11 (np_cut np_body) (by kernel_rfl) rfl rfl rfl rfl hg368 (fun _ => RunsAt_pu rfl) rfl ?_
                        refine N_hoistg 12 (np_cut np_body) (by kernel_rfl) rfl rfl rfl rfl hg368 (fun _ => RunsAt_pu rfl) rfl ?_
                        refine N_hoistg 13 (np_cut np_body) (by kernel_rfl) rfl rfl rfl rfl hg368 (fun _ => r_conv Try.underlying3 Try.underlying5 rfl (conv_64_u8 _)) rfl ?_
                        refine N2 (i := 9) (j := 14) (by kernel_rfl) rfl rfl ?_ ?_
                        · refine S_guarded rfl rfl hg368 ?_
                          refine S_v (r_field rfl Try.underlying32 rfl zr22 (by decide)) rfl ?_
                          refine N_nil ?_
                          refine N2 (i := 10) (j := 14) (by kernel_rfl) rfl rfl ?_ ?_
                          · refine S_guarded rfl rfl hg368 ?_
                            refine S_v (r_loadB1 3 rfl Try.underlying22 rfl hL364 rfl rfl) rfl ?_
                            refine N_nil ?_
                            refine N1 (i := 14) (by kernel_rfl) rfl ?_
                            refine S_guarded rfl rfl hg368 ?_
                            obtain ⟨x370, hb370, h⟩ := Go.L.bind_some h
                            refine S_callL rfl rfl hL364 (ref4_Values_ok _ _ (gz_le hH hL364) hfs13_41 hb370) ?_
                            rintro u371_0 w371 ⟨_, rfl, hR371_0⟩ hx371 hL371 hle371
                            have hv371_0 := hR371_0.vecG hH hL364 hx371
                            replace hfs13_41 := hfs13_41.mono (gz_mono hH hle371)
                            replace hf42_2 := hf42_2.mono (gz_mono hH hle371)
                            refine N_nil ?_
                            refine N1 (i := 15) (by kernel_rfl) rfl ?_
                            refine S_guarded rfl rfl hg368 ?_
                            refine S_callL rfl rfl hL371 (same_l _ _ (gz_le hH hL371) hf42_2 hv371_0) ?_
                            rintro _ w372 rfl hx372 hL372 hle372
                            replace hfs13_41 := hfs13_41.mono (gz_mono hH hle372)
                            replace hf42_2 := hf42_2.mono (gz_mono hH hle372)
                            replace hv371_0 := hv371_0.mono (gz_mono hH hle372)
                            refine N_nil ?_
                            refine N_hoistg 16 (np_cut np_body) (by kernel_rfl) rfl rfl rfl rfl hg365 (fun _ => r_pickT rfl hg368 rfl) rfl ?_
                            refine N_hoist 17 (np_cut np_body) (by kernel_rfl) rfl (fun _ => r_pickF rfl hg365 rfl) rfl ?_
                            refine N_hoist 18 (np_cut np_body) (by kernel_rfl) rfl (fun _ => RunsAt_pu rfl) rfl ?_
                            refine N_end (by kernel_rfl) ?_
                            refine At_cut (decide ((((M.axK a0 a1 a2, M.axD a0 a1 a2)).2) = x370)) (.cons rfl (Sub.nil _)) ⟨hL372, hf42_2, h⟩
                          · obtain ⟨x370, hb370, h⟩ := Go.L.bind_some h
                            refine S_guarded rfl rfl hg368 ?_
                            refine S_callL rfl rfl hL364 (ref4_Values_ok _ _ (gz_le hH hL364) hfs13_41 hb370) ?_
                            rintro u373_0 w373 ⟨_, rfl, hR373_0⟩ hx373 hL373 hle373
                            have hv373_0 := hR373_0.vecG hH hL364 hx373
                            replace hfs13_41 := hfs13_41.mono (gz_mono hH hle373)
                            replace hf42_2 := hf42_2.mono (gz_mono hH hle373)
                            refine N_nil ?_
                            refine N1 (i := 10) (by kernel_rfl) rfl ?_
                            refine S_guarded rfl rfl hg368 ?_
                            refine S_v (r_loadB1 3 rfl Try.underlying22 rfl hL373 rfl rfl) rfl ?_
                            refine N_nil ?_
                            refine N1 (i := 15) (by kernel_rfl) rfl ?_
                            refine S_guarded rfl rfl hg368 ?_
                            refine S_callL rfl rfl hL373 (same_l _ _ (gz_le hH hL373) hf42_2 hv373_0) ?_
                            rintro _ w374 rfl hx374 hL374 hle374
                            replace hfs13_41 := hfs13_41.mono (gz_mono hH hle374)
                            replace hf42_2 := hf42_2.mono (gz_mono hH hle374)
                            replace hv373_0 := hv373_0.mono (gz_mono hH hle374)
                            refine N_nil ?_
                            refine N_hoistg 16 (np_cut np_body) (by kernel_rfl) rfl rfl rfl rfl hg365 (fun _ => r_pickT rfl hg368 rfl) rfl ?_
                            refine N_hoist 17 (np_cut np_body) (by kernel_rfl) rfl (fun _ => r_pickF rfl hg365 rfl) rfl ?_
                            refine N_hoist 18 (np_cut np_body) (by kernel_rfl) rfl (fun _ => RunsAt_pu rfl) rfl ?_
                            refine N_end (by kernel_rfl) ?_
                            refine At_cut (decide ((((M.axK a0 a1 a2, M.axD a0 a1 a2)).2) = x370)) (.cons rfl (Sub.nil _)) ⟨hL374, hf42_2, h⟩
                        · obtain ⟨x370, hb370, h⟩ := Go.L.bind_some h
                          refine S_guarded rfl rfl hg368 ?_
                          refine S_callL rfl rfl hL364 (ref4_Values_ok _ _ (gz_le hH hL364) hfs13_41 hb370) ?_
                          rintro u375_0 w375 ⟨_, rfl, hR375_0⟩ hx375 hL375 hle375
                          have hv375_0 := hR375_0.vecG hH hL364 hx375
                          replace hfs13_41 := hfs13_41.mono (gz_mono hH hle375)
                          replace hf42_2 := hf42_2.mono (gz_mono hH hle375)
                          refine N_nil ?_
                          refine N1 (i := 9) (by kernel_rfl) rfl ?_
                          refine S_guarded rfl rfl hg368 ?_
                          refine S_v (r_field rfl Try.underlying32 rfl zr22 (by decide)) rfl ?_
                          refine N_nil ?_
                          refine N1 (i := 10) (by kernel_rfl) rfl ?_
                          refine S_guarded rfl rfl hg368 ?_
                          refine S_v (r_loadB1 3 rfl Try.underlying22 rfl hL375 rfl rfl) rfl ?_
                          refine N_nil ?_
                          refine N1 (i := 15) (by kernel_rfl) rfl ?_
                          refine S_guarded rfl rfl hg368 ?_
                          refine S_callL rfl rfl hL375 (same_l _ _ (gz_le hH hL375) hf42_2 hv375_0) ?_
                          rintro _ w376 rfl hx376 hL376 hle376
                          replace hfs13_41 := hfs13_41.mono (gz_mono hH hle376)
                          replace hf42_2 := hf42_2.mono (gz_mono hH hle376)
                          replace hv375_0 := hv375_0.mono (gz_mono hH hle376)
                          refine N_nil ?_
                          refine N_hoistg 16 (np_cut np_body) (by kernel_rfl) rfl rfl rfl rfl hg365 (fun _ => r_pickT rfl hg368 rfl) rfl ?_
                          refine N_hoist 17 (np_cut np_body) (by kernel_rfl) rfl (fun _ => r_pickF rfl hg365 rfl) rfl ?_
                          refine N_hoist 18 (np_cut np_body) (by kernel_rfl) rfl (fun _ => RunsAt_pu rfl) rfl ?_
                          refine N_end (by kernel_rfl) ?_
                          refine At_cut (decide ((((M.axK a0 a1 a2, M.axD a0 a1 a2)).2) = x370)) (.cons rfl (Sub.nil _)) ⟨hL376, hf42_2, h⟩
                      · replace h := Go.L.ite_n (of_decide_eq_false hg368) h
                        refine N_no 9 (np_cut np_body) (by kernel_rfl) rfl rfl rfl rfl hg368 rfl ?_
                        refine N_no 10 (np_cut np_body) (by kernel_rfl) rfl rfl rfl rfl hg368 rfl ?_
                        refine N_no 11 (np_cut np_body) (by kernel_rfl) rfl rfl rfl rfl hg368 rfl ?_
                        refine N_no 12 (np_cut np_body) (by kernel_rfl) rfl rfl rfl rfl hg368 rfl ?_
                        refine N_no 13 (np_cut np_body) (by kernel_rfl) rfl rfl rfl rfl hg368 rfl ?_
                        refine N_no 14 (np_cut np_body) (by kernel_rfl) rfl rfl rfl rfl hg368 rfl ?_
                        refine N_no 15 (np_cut np_body) (by kernel_rfl) rfl rfl rfl rfl hg368 rfl ?_
                        refine N_hoistg 16 (np_cut np_body) (by kernel_rfl) rfl rfl rfl rfl hg365 (fun _ => r_pickF rfl hg368 rfl) rfl ?_
                        refine N_hoist 17 (np_cut np_body) (by kernel_rfl) rfl (fun _ => r_pickF rfl hg365 rfl) rfl ?_
                        refine N_hoist 18 (np_cut np_body) (by kernel_rfl) rfl (fun _ => RunsAt_pu rfl) rfl ?_
                        refine N_end (by kernel_rfl) ?_
                        refine At_cut false (.cons rfl (Sub.nil _)) ⟨hL364, hf42_2, h⟩
                  · rintro s6_360 wr361 ⟨hL361, hf361_0, h⟩
                    refine W_ret ?_
                    obtain rfl := Option.some.inj h
                    refine At_body rfl rfl ?_
                    exact ⟨hL361.ext, rfl⟩
              · replace h := Go.L.ite_n (of_decide_eq_false hg336) h
                refine S_unwanted rfl rfl hg336 rfl ?_
                refine S_unwanted rfl rfl hg336 rfl ?_
                refine S_unwanted rfl rfl hg336 rfl ?_
                refine S_unwanted rfl rfl hg336 rfl ?_
                refine S_unwanted rfl rfl hg336 rfl ?_
                refine S_v (r_pickF rfl hg336 rfl) rfl ?_
                refine S_seqnil ?_
                refine W_false rfl ?_
                refine W_skip ?_
                refine At_seq ?_
                refine W_cut (σ := Bool) (fun (s6_396 : Bool) => [(6, .bool s6_396)]) (fun (s6_396 : Bool) wr => Lcl w [.box b14 [.int .i64 c37, .int .i64 c38] 25, .box b11 [.int .i64 c39, .int .i64 c40] 25, .box b6 [.int .i64 (((M.axF a0 a1 a2)).1), .int .i64 (((M.axF a0 a1 a2)).2)] 25, .box b5 [.int .i64 (((M.axK a0 a1 a2, M.axD a0 a1 a2)).1), u4_0] 32, .box b2 [.int .i64 (((M.jnF a0 a1)).1), .int .i64 (((M.jnF a0 a1)).2)] 25] wr ∧ Vec .byte (gz H w wr [.box b14 [.int .i64 c37, .int .i64 c38] 25, .box b11 [.int .i64 c39, .int .i64 c40] 25, .box b6 [.int .i64 (((M.axF a0 a1 a2)).1), .int .i64 (((M.axF a0 a1 a2)).2)] 25, .box b5 [.int .i64 (((M.axK a0 a1 a2, M.axD a0 a1 a2)).1), u4_0] 32, .box b2 [.int .i64 (((M.jnF a0 a1)).1), .int .i64 (((M.jnF a0 a1)).2)] 25]) (u4_0) (((M.axK a0 a1 a2, M.axD a0 a1 a2)).2) ∧ law4_SharesJoinMatchesSpec_k9 s6_396 = some r) ?_ ?_
                · refine W_naive mixed rfl (fun w399 hx399 => ?_)
                  have hL400 := hL65.call hx399
                  have hle400 := fz_ext hL65 hx399
                  replace hfs13_41 := hfs13_41.mono (gz_mono hH hle400)
                  replace hf42_2 := hf42_2.mono (gz_mono hH hle400)
                  refine N1 (i := 0) (by kernel_rfl) rfl ?_
                  refine S_v (r_field rfl Try.underlying25 rfl zr3 (by decide)) rfl ?_
                  refine N_nil ?_
                  refine N1 (i := 1) (by kernel_rfl) rfl ?_
                  refine S_v (r_loadB1 0 rfl Try.underlying3 rfl hL400 rfl rfl) rfl ?_
                  refine N_nil ?_
                  refine N_hoist 2 (np_cut np_body) (by kernel_rfl) rfl (fun _ => RunsAt_pu rfl) rfl ?_
                  refine N_hoist 3 (np_cut np_body) (by kernel_rfl) rfl (fun _ => RunsAt_pu rfl) rfl ?_
                  refine N_split (s := 106) rfl (fun hg401 => ?_) (fun hg401 => ?_)
                  · replace h := Go.L.ite_n (not_dec_t hg401) h
                    refine N_no 4 (np_cut np_body) (by kernel_rfl) rfl rfl rfl rfl hg401 rfl ?_
                    refine N_no 5 (np_cut np_body) (by kernel_rfl) rfl rfl rfl rfl hg401 rfl ?_
                    refine N_no 6 (np_cut np_body) (by kernel_rfl) rfl rfl rfl rfl hg401 rfl ?_
                    refine N_no 7 (np_cut np_body) (by kernel_rfl) rfl rfl rfl rfl hg401 rfl ?_
                    refine N_no 8 (np_cut np_body) (by kernel_rfl) rfl rfl rfl rfl hg401 rfl ?_
                    refine N_no2 9 (np_cut np_body) (by kernel_rfl) rfl rfl rfl rfl rfl ?_
                    refine N_no2 10 (np_cut np_body) (by kernel_rfl) rfl rfl rfl rfl rfl ?_
                    refine N_no2 11 (np_cut np_body) (by kernel_rfl) rfl rfl rfl rfl rfl ?_
                    refine N_no2 12 (np_cut np_body) (by kernel_rfl) rfl rfl rfl rfl rfl ?_
                    refine N_no2 13 (np_cut np_body) (by kernel_rfl) rfl rfl rfl rfl rfl ?_
                    refine N_no2 14 (np_cut np_body) (by kernel_rfl) rfl rfl rfl rfl rfl ?_
                    refine N_no2 15 (np_cut np_body) (by kernel_rfl) rfl rfl rfl rfl rfl ?_
                    refine N_no 16 (np_cut np_body) (by kernel_rfl) rfl rfl rfl rfl hg401 rfl ?_
                    refine N_hoist 17 (np_cut np_body) (by kernel_rfl) rfl (fun _ => r_pickT rfl hg401 rfl) rfl ?_
                    refine N_hoist 18 (np_cut np_body) (by kernel_rfl) rfl (fun _ => RunsAt_pu rfl) rfl ?_
                    refine N_end (by kernel_rfl) ?_
                    refine At_cut true (.cons rfl (Sub.nil _)) ⟨hL400, hf42_2, h⟩
                  · replace h := Go.L.ite_p (not_dec_f hg401) h
                    refine N_hoistg 6 (np_cut np_body) (by kernel_rfl) rfl rfl rfl rfl hg401 (fun _ => RunsAt_pu rfl) rfl ?_
                    refine N1 (i := 4) (by kernel_rfl) rfl ?_
                    refine S_guarded rfl rfl hg401 ?_
                    refine S_v (r_field rfl Try.underlying32 rfl zr3 (by decide)) rfl ?_
                    refine N_nil ?_
                    refine N1 (i := 5) (by kernel_rfl) rfl ?_
                    refine S_guarded rfl rfl hg401 ?_
                    refine S_v (r_loadB1 3 rfl Try.underlying3 rfl hL400 rfl rfl) rfl ?_
                    refine N_nil ?_
                    refine N_hoistg 7 (np_cut np_body) (by kernel_rfl) rfl rfl rfl rfl hg401 (fun _ => RunsAt_pu rfl) rfl ?_
                    refine N_hoistg 8 (np_cut np_body) (by kernel_rfl) rfl rfl rfl rfl hg401 (fun _ => RunsAt_pu rfl) rfl ?_
                    refine N_split (s := 111) rfl (fun hg404 => ?_) (fun hg404 => ?_)
                    · replace h := Go.L.ite_p (of_decide_eq_true hg404) h
                      refine N_hoistg 11 (np_cut np_body) (by kernel_rfl) rfl rfl rfl rfl hg404 (fun _ => RunsAt_pu rfl) rfl ?_
                      refine N_hoistg 12 (np_cut np_body) (by kernel_rfl) rfl rfl rfl rfl hg404 (fun _ => RunsAt_pu rfl) rfl ?_
                      refine N_hoistg 13 (np_cut np_body) (by kernel_rfl) rfl rfl rfl rfl hg404 (fun _ => r_conv Try.underlying3 Try.underlying5 rfl (conv_64_u8 _)) rfl ?_
                      refine N2 (i := 9) (j := 14) (by kernel_rfl) rfl rfl ?_ ?_
                      · refine S_guarded rfl rfl hg404 ?_
                        refine S_v (r_field rfl Try.underlying32 rfl zr22 (by decide)) rfl ?_
                        refine N_nil ?_
                        refine N2 (i := 10) (j := 14) (by kernel_rfl) rfl rfl ?_ ?_
                        · refine S_guarded rfl rfl hg404 ?_
                          refine S_v (r_loadB1 3 rfl Try.underlying22 rfl hL400 rfl rfl) rfl ?_
                          refine N_nil ?_
                          refine N1 (i := 14) (by kernel_rfl) rfl ?_
                          refine S_guarded rfl rfl hg404 ?_
                          obtain ⟨x406, hb406, h⟩ := Go.L.bind_some h
                          refine S_callL rfl rfl hL400 (ref4_Values_ok _ _ (gz_le hH hL400) hfs13_41 hb406) ?_
                          rintro u407_0 w407 ⟨_, rfl, hR407_0⟩ hx407 hL407 hle407
                          have hv407_0 := hR407_0.vecG hH hL400 hx407
                          replace hfs13_41 := hfs13_41.mono (gz_mono hH hle407)
                          replace hf42_2 := hf42_2.mono (gz_mono hH hle407)
                          refine N_nil ?_
                          refine N1 (i := 15) (by kernel_rfl) rfl ?_
                          refine S_guarded rfl rfl hg404 ?_
                          refine S_callL rfl rfl hL407 (same_l _ _ (gz_le hH hL407) hf42_2 hv407_0) ?_
                          rintro _ w408 rfl hx408 hL408 hle408
                          replace hfs13_41 := hfs13_41.mono (gz_mono hH hle408)
                          replace hf42_2 := hf42_2.mono (gz_mono hH hle408)
                          replace hv407_0 := hv407_0.mono (gz_mono hH hle408)
                          refine N_nil ?_
                          refine N_hoistg 16 (np_cut np_body) (by kernel_rfl) rfl rfl rfl rfl hg401 (fun _ => r_pickT rfl hg404 rfl) rfl ?_
                          refine N_hoist 17 (np_cut np_body) (by kernel_rfl) rfl (fun _ => r_pickF rfl hg401 rfl) rfl ?_
                          refine N_hoist 18 (np_cut np_body) (by kernel_rfl) rfl (fun _ => RunsAt_pu rfl) rfl ?_
                          refine N_end (by kernel_rfl) ?_
                          refine At_cut (decide ((((M.axK a0 a1 a2, M.axD a0 a1 a2)).2) = x406)) (.cons rfl (Sub.nil _)) ⟨hL408, hf42_2, h⟩
                        · obtain ⟨x406, hb406, h⟩ := Go.L.bind_some h
                          refine S_guarded rfl rfl hg404 ?_
                          refine S_callL rfl rfl hL400 (ref4_Values_ok _ _ (gz_le hH hL400) hfs13_41 hb406) ?_
                          rintro u409_0 w409 ⟨_, rfl, hR409_0⟩ hx409 hL409 hle409
                          have hv409_0 := hR409_0.vecG hH hL400 hx409
                          replace hfs13_41 := hfs13_41.mono (gz_mono hH hle409)
                          replace hf42_2 := hf42_2.mono (gz_mono hH hle409)
                          refine N_nil ?_
                          refine N1 (i := 10) (by kernel_rfl) rfl ?_
                          refine S_guarded rfl rfl hg404 ?_
                          refine S_v (r_loadB1 3 rfl Try.underlying22 rfl hL409 rfl rfl) rfl ?_
                          refine N_nil ?_
                          refine N1 (i := 15) (by kernel_rfl) rfl ?_
                          refine S_guarded rfl rfl hg404 ?_
                          refine S_callL rfl rfl hL409 (same_l _ _ (gz_le hH hL409) hf42_2 hv409_0) ?_
                          rintro _ w410 rfl hx410 hL410 hle410
                          replace hfs13_41 := hfs13_41.mono (gz_mono hH hle410)
                          replace hf42_2 := hf42_2.mono (gz_mono hH hle410)
                          replace hv409_0 := hv409_0.mono (gz_mono hH hle410)
                          refine N_nil ?_
                          refine N_hoistg 16 (np_cut np_body) (by kernel_rfl) rfl rfl rfl rfl hg401 (fun _ => r_pickT rfl hg404 rfl) rfl ?_
                          refine N_hoist 17 (np_cut np_body) (by kernel_rfl) rfl (fun _ => r_pickF rfl hg401 rfl) rfl ?_
                          refine N_hoist 18 (np_cut np_body) (by kernel_rfl) rfl (fun _ => RunsAt_pu rfl) rfl ?_
                          refine N_end (by kernel_rfl) ?_
                          refine At_cut (decide ((((M.axK a0 a1 a2, M.axD a0 a1 a2)).2) = x406)) (.cons rfl (Sub.nil _)) ⟨hL410, hf42_2, h⟩
                      · obtain ⟨x406, hb406, h⟩ := Go.L.bind_some h
                        refine S_guarded rfl rfl hg404 ?_
                        refine S_callL rfl rfl hL400 (ref4_Values_ok _ _ (gz_le hH hL400) hfs13_41 hb406) ?_
                        rintro u411_0 w411 ⟨_, rfl, hR411_0⟩ hx411 hL411 hle411
                        have hv411_0 := hR411_0.vecG hH hL400 hx411
                        replace hfs13_41 := hfs13_41.mono (gz_mono hH hle411)
                        replace hf42_2 := hf42_2.mono (gz_mono hH hle411)
                        refine N_nil ?_
                        refine N1 (i := 9) (by kernel_rfl) rfl ?_
                        refine S_guarded rfl rfl hg404 ?_
                        refine S_v (r_field rfl Try.underlying32 rfl zr22 (by decide)) rfl ?_
                        refine N_nil ?_
                        refine N1 (i := 10) (by kernel_rfl) rfl ?_
                        refine S_guarded rfl rfl hg404 ?_
                        refine S_v (r_loadB1 3 rfl Try.underlying22 rfl hL411 rfl rfl) rfl ?_
                        refine N_nil ?_
                        refine N1 (i := 15) (by kernel_rfl) rfl ?_
                        refine S_guarded rfl rfl hg404 ?_
                        refine S_callL rfl rfl hL411 (same_l _ _ (gz_le hH hL411) hf42_2 hv411_0) ?_
                        rintro _ w412 rfl hx412 hL412 hle412
                        replace hfs13_41 := hfs13_41.mono (gz_mono hH hle412)
                        replace hf42_2 := hf42_2.mono (gz_mono hH hle412)
                        replace hv411_0 := hv411_0.mono (gz_mono hH hle412)
                        refine N_nil ?_
                        refine N_hoistg 16 (np_cut np_body) (by kernel_rfl) rfl rfl rfl rfl hg401 (fun _ => r_pickT rfl hg404 rfl) rfl ?_
                        refine N_hoist 17 (np_cut np_body) (by kernel_rfl) rfl (fun _ => r_pickF rfl hg401 rfl) rfl ?_
                        refine N_hoist 18 (np_cut np_body) (by kernel_rfl) rfl (fun _ => RunsAt_pu rfl) rfl ?_
                        refine N_end (by kernel_rfl) ?_
                        refine At_cut (decide ((((M.axK a0 a1 a2, M.axD a0 a1 a2)).2) = x406)) (.cons rfl (Sub.nil _)) ⟨hL412, hf42_2, h⟩
                    · replace h := Go.L.ite_n (of_decide_eq_false hg404) h
                      refine N_no 9 (np_cut np_body) (by kernel_rfl) rfl rfl rfl rfl hg404 rfl ?_
                      refine N_no 10 (np_cut np_body) (by kernel_rfl) rfl rfl rfl rfl hg404 rfl ?_
                      refine N_no 11 (np_cut np_body) (by kernel_rfl) rfl rfl rfl rfl hg404 rfl ?_
                      refine N_no 12 (np_cut np_body) (by kernel_rfl) rfl rfl rfl rfl hg404 rfl ?_
                      refine N_no 13 (np_cut np_body) (by kernel_rfl) rfl rfl rfl rfl hg404 rfl ?_
                      refine N_no 14 (np_cut np_body) (by kernel_rfl) rfl rfl rfl rfl hg404 rfl ?_
                      refine N_no 15 (np_cut np_body) (by kernel_rfl) rfl rfl rfl rfl hg404 rfl ?_
                      refine N_hoistg 16 (np_cut np_body) (by kernel_rfl) rfl rfl rfl rfl hg401 (fun _ => r_pickF rfl hg404 rfl) rfl ?_
                      refine N_hoist 17 (np_cut np_body) (by kernel_rfl) rfl (fun _ => r_pickF rfl hg401 rfl) rfl ?_
                      refine N_hoist 18 (np_cut np_body) (by kernel_rfl) rfl (fun _ => RunsAt_pu rfl) rfl ?_
                      refine N_end (by kernel_rfl) ?_
                      refine At_cut false (.cons rfl (Sub.nil _)) ⟨hL400, hf42_2, h⟩
                · rintro s6_396 wr397 ⟨hL397, hf397_0, h⟩
                  refine W_ret ?_
                  obtain rfl := Option.some.inj h
                  refine At_body rfl rfl ?_
                  exact ⟨hL397.ext, rfl⟩

noncomputable def law4_SharesMendMatchesSpec (a0 : List (Int × (List UInt8))) (a1 : Int) : Option (Bool) :=
  Option.bind (ref4_EnoughFault a0 a1) (fun x4 => if !true then if true then if ((M.mnF a0 a1)).1 = x4.1 ∧ ((M.mnF a0 a1)).2 = x4.2 then Go.L.chk (Go.L.I64 (((M.mnS a0 a1).length : Int) + ((M.mnB a0 a1).length : Int))) (some (decide ((((M.mnS a0 a1).length : Int) + ((M.mnB a0 a1).length : Int)) = (0 : Int)))) else some (false) else some (false) else if x4.1 = (0 : Int) then (if (6 : Int) < (a0.length : Int) then if ((M.mnF a0 a1)).1 = (0 : Int) then some (true) else if ((M.mnF a0 a1)).1 = (((19 : Int), (-1 : Int))).1 ∧ ((M.mnF a0 a1)).2 = (((19 : Int), (-1 : Int))).2 then Go.L.chk (Go.L.I64 (((M.mnS a0 a1).length : Int) + ((M.mnB a0 a1).length : Int))) (some (decide ((((M.mnS a0 a1).length : Int) + ((M.mnB a0 a1).length : Int)) = (0 : Int)))) else some (false) else Go.L.chk (0 ≤ (0 : Int) ∧ (0 : Int) < (a0.length : Int)) (if (3 : Int) < (((a0.getD ((0 : Int).toNat) default).2).length : Int) then (if ((M.mnF a0 a1)).1 = (0 : Int) then some (true) else if ((M.mnF a0 a1)).1 = (((19 : Int), (-1 : Int))).1 ∧ ((M.mnF a0 a1)).2 = (((19 : Int), (-1 : Int))).2 then Go.L.chk (Go.L.I64 (((M.mnS a0 a1).length : Int) + ((M.mnB a0 a1).length : Int))) (some (decide ((((M.mnS a0 a1).length : Int) + ((M.mnB a0 a1).length : Int)) = (0 : Int)))) else some (false)) else Option.bind (law4_mended a0 a1) (fun x72 => if !x72.2.2 then (if ((M.mnF a0 a1)).1 = (((19 : Int), (-1 : Int))).1 ∧ ((M.mnF a0 a1)).2 = (((19 : Int), (-1 : Int))).2 then Go.L.chk (Go.L.I64 (((M.mnS a0 a1).length : Int) + ((M.mnB a0 a1).length : Int))) (some (decide ((((M.mnS a0 a1).length : Int) + ((M.mnB a0 a1).length : Int)) = (0 : Int)))) else some (false)) else (if ((M.mnF a0 a1)).1 = (0 : Int) then if (M.mnS a0 a1) = x72.1 then some (decide ((M.mnB a0 a1) = x72.2.1)) else some (false) else some (false))))) else (if true then if ((M.mnF a0 a1)).1 = x4.1 ∧ ((M.mnF a0 a1)).2 = x4.2 then Go.L.chk (Go.L.I64 (((M.mnS a0 a1).length : Int) + ((M.mnB a0 a1).length : Int))) (some (decide ((((M.mnS a0 a1).length : Int) + ((M.mnB a0 a1).length : Int)) = (0 : Int)))) else some (false) else some (false)))

set_option maxRecDepth 10000 in
theorem law4_SharesMendMatchesSpec_ok (w : World) (H : PH) (hH : Le H (hp w)) {a0 : List (Int × (List UInt8))} {a1 : Int} {v0_0 : Value} (h0_0 : Vec (.pair (.int .i64) (.vec .byte)) H v0_0 (a0)) {r : Bool} (h : law4_SharesMendMatchesSpec a0 a1 = some r) :
    Ok Try.prog 8 [v0_0, .int .i64 a1] w (fun v w' => Ext w w' ∧ v = .bool r) := by
  refine Ok_enter (n := 103) [(0, v0_0), (1, .int .i64 a1)] Try.func8 rfl rfl rfl rfl rfl ?_
  have hL := Lcl.start w
  refine W_seqr ?_
  refine S_pu 1 rfl ?_
  refine S_seqnil ?_
  refine W_seqr ?_
  refine S_pu 2 rfl ?_
  refine S_callL rfl rfl hL (mend_l _ _ (gz_le hH hL) (h0_0.mono (gz_left hH))) ?_
  rintro _ w1 ⟨u1_0, u1_1, rfl, hR1_0, hR1_1⟩ hx1 hL1 hle1
  have hv1_0 := hR1_0.mono (gz_nw hH hL hx1)
  have hv1_1 := hR1_1.mono (gz_nw hH hL hx1)
  refine S_pu 4 rfl ?_
  refine S_alloc zr25 rfl rfl hL1 ?_
  intro w2 b2 hL2 hle2 _
  replace hv1_0 := hv1_0.mono (gz_mono hH hle2)
  replace hv1_1 := hv1_1.mono (gz_mono hH hle2)
  refine S_pu 2 rfl ?_
  refine S_storeBN 0 rfl rfl rfl zr25 hL2 rfl rfl (onc rfl (onc rfl on0)) ?_
  intro w3 hL3 hle3
  replace hv1_0 := hv1_0.mono (gz_mono hH hle3)
  replace hv1_1 := hv1_1.mono (gz_mono hH hle3)
  refine S_seqnil ?_
  refine W_seqr ?_
  refine S_pu 2 rfl ?_
  obtain ⟨x4, hb4, h⟩ := Go.L.bind_some h
  refine S_callL rfl rfl hL3 (ref4_EnoughFault_ok _ _ (gz_le hH hL3) (h0_0.mono (gz_left hH)) hb4) ?_
  rintro _ w5 rfl hx5 hL5 hle5
  replace hv1_0 := hv1_0.mono (gz_mono hH hle5)
  replace hv1_1 := hv1_1.mono (gz_mono hH hle5)
  refine S_alloc zr25 rfl rfl hL5 ?_
  intro w6 b6 hL6 hle6 _
  replace hv1_0 := hv1_0.mono (gz_mono hH hle6)
  replace hv1_1 := hv1_1.mono (gz_mono hH hle6)
  refine S_storeBN 0 rfl rfl rfl zr25 hL6 rfl rfl (onc rfl (onc rfl on0)) ?_
  intro w7 hL7 hle7
  replace hv1_0 := hv1_0.mono (gz_mono hH hle7)
  replace hv1_1 := hv1_1.mono (gz_mono hH hle7)
  refine S_seqnil ?_
  refine W_seq ?_
  refine W_seqr ?_
  refine S_callL rfl rfl hL7 (opens_l _ _ (gz_le hH hL7) ) ?_
  rintro _ w8 rfl hx8 hL8 hle8
  replace hv1_0 := hv1_0.mono (gz_mono hH hle8)
  replace hv1_1 := hv1_1.mono (gz_mono hH hle8)
  refine S_pu 2 rfl ?_
  refine S_split (s := 24) rfl (fun hg9 => ?_) (fun hg9 => ?_)
  · replace h := Go.L.ite_t hg9 h
    refine S_unwanted rfl rfl hg9 rfl ?_
    refine S_unwanted rfl rfl hg9 rfl ?_
    refine S_unwanted rfl rfl hg9 rfl ?_
    refine S_v (r_pickT rfl hg9 rfl) rfl ?_
    refine S_seqnil ?_
    refine W_true rfl ?_
    refine W_seqr ?_
    refine S_callL rfl rfl hL8 (opens_l _ _ (gz_le hH hL8) ) ?_
    rintro _ w11 rfl hx11 hL11 hle11
    replace hv1_0 := hv1_0.mono (gz_mono hH hle11)
    replace hv1_1 := hv1_1.mono (gz_mono hH hle11)
    refine S_pu 1 rfl ?_
    refine S_split (s := 30) rfl (fun hg12 => ?_) (fun hg12 => ?_)
    · replace h := Go.L.ite_t hg12 h
      refine S_guarded rfl rfl hg12 ?_
      refine S_v (r_loadBN 1 rfl Try.underlying25 rfl zr25 hL11 rfl) rfl ?_
      refine S_guarded rfl rfl hg12 ?_
      refine S_v (r_loadBN 0 rfl Try.underlying25 rfl zr25 hL11 rfl) rfl ?_
      refine S_guarded rfl rfl hg12 ?_
      refine S_v (r_eqA rfl rfl eqg25 (eq25 _ _ _ _ )) rfl ?_
      refine S_v (r_pickT rfl hg12 rfl) rfl ?_
      refine S_pu 1 rfl ?_
      refine S_split (s := 35) rfl (fun hg14 => ?_) (fun hg14 => ?_)
      · replace h := Go.L.ite_p (of_decide_eq_true hg14) h
        refine S_guarded rfl rfl hg14 ?_
        refine S_v (RunsAt_pu rfl) rfl ?_
        refine S_guarded rfl rfl hg14 ?_
        refine S_v (r_len rfl Try.underlying22 hv1_0) rfl ?_
        refine S_guarded rfl rfl hg14 ?_
        refine S_v (RunsAt_pu rfl) rfl ?_
        refine S_guarded rfl rfl hg14 ?_
        refine S_v (r_len rfl Try.underlying43 hv1_1) rfl ?_
        refine S_guarded rfl rfl hg14 ?_
        obtain ⟨hk16, h⟩ := Go.L.chk_some h
        refine S_v (r_ar64 rfl rfl rfl hk16) rfl ?_
        refine S_guarded rfl rfl hg14 ?_
        refine S_v (RunsAt_pu rfl) rfl ?_
        refine S_v (r_pickT rfl hg14 rfl) rfl ?_
        refine S_pu 1 rfl ?_
        refine S_seqnil ?_
        refine W_ret ?_
        refine At_seq_ret ?_
        obtain rfl := Option.some.inj h
        refine At_body rfl rfl ?_
        exact ⟨hL11.ext, rfl⟩
      · replace h := Go.L.ite_n (of_decide_eq_false hg14) h
        refine S_unwanted rfl rfl hg14 rfl ?_
        refine S_unwanted rfl rfl hg14 rfl ?_
        refine S_unwanted rfl rfl hg14 rfl ?_
        refine S_unwanted rfl rfl hg14 rfl ?_
        refine S_unwanted rfl rfl hg14 rfl ?_
        refine S_unwanted rfl rfl hg14 rfl ?_
        refine S_v (r_pickF rfl hg14 rfl) rfl ?_
        refine S_pu 1 rfl ?_
        refine S_seqnil ?_
        refine W_ret ?_
        refine At_seq_ret ?_
        obtain rfl := Option.some.inj h
        refine At_body rfl rfl ?_
        exact ⟨hL11.ext, rfl⟩
    · replace h := Go.L.ite_f hg12 h
      refine S_unwanted rfl rfl hg12 rfl ?_
      refine S_unwanted rfl rfl hg12 rfl ?_
      refine S_unwanted rfl rfl hg12 rfl ?_
      refine S_v (r_pickF rfl hg12 rfl) rfl ?_
      refine S_pu 1 rfl ?_
      refine S_unwanted rfl rfl rfl rfl ?_
      refine S_unwanted rfl rfl rfl rfl ?_
      refine S_unwanted rfl rfl rfl rfl ?_
      refine S_unwanted rfl rfl rfl rfl ?_
      refine S_unwanted rfl rfl rfl rfl ?_
      refine S_unwanted rfl rfl rfl rfl ?_
      refine S_v (r_pickF rfl rfl rfl) rfl ?_
      refine S_pu 1 rfl ?_
      refine S_seqnil ?_
      refine W_ret ?_
      refine At_seq_ret ?_
      obtain rfl := Option.some.inj h
      refine At_body rfl rfl ?_
      exact ⟨hL11.ext, rfl⟩
  · replace h := Go.L.ite_f hg9 h
    refine S_guarded rfl rfl hg9 ?_
    refine S_v (r_field rfl Try.underlying25 rfl zr3 (by decide)) rfl ?_
    refine S_guarded rfl rfl hg9 ?_
    refine S_v (r_loadB1 0 rfl Try.underlying3 rfl hL8 rfl rfl) rfl ?_
    refine S_guarded rfl rfl hg9 ?_
    refine S_v (RunsAt_pu rfl) rfl ?_
    refine S_v (r_pickF rfl hg9 rfl) rfl ?_
    refine S_seqnil ?_
    refine W_ifn rfl (fun hc20 => ?_) (fun hc20 => ?_)
    · replace h := Go.L.ite_n hc20 h
      refine W_seqr ?_
      refine S_callL rfl rfl hL8 (opens_l _ _ (gz_le hH hL8) ) ?_
      rintro _ w22 rfl hx22 hL22 hle22
      replace hv1_0 := hv1_0.mono (gz_mono hH hle22)
      replace hv1_1 := hv1_1.mono (gz_mono hH hle22)
      refine S_pu 1 rfl ?_
      refine S_split (s := 30) rfl (fun hg23 => ?_) (fun hg23 => ?_)
      · replace h := Go.L.ite_t hg23 h
        refine S_guarded rfl rfl hg23 ?_
        refine S_v (r_loadBN 1 rfl Try.underlying25 rfl zr25 hL22 rfl) rfl ?_
        refine S_guarded rfl rfl hg23 ?_
        refine S_v (r_loadBN 0 rfl Try.underlying25 rfl zr25 hL22 rfl) rfl ?_
        refine S_guarded rfl rfl hg23 ?_
        refine S_v (r_eqA rfl rfl eqg25 (eq25 _ _ _ _ )) rfl ?_
        refine S_v (r_pickT rfl hg23 rfl) rfl ?_
        refine S_pu 1 rfl ?_
        refine S_split (s := 35) rfl (fun hg25 => ?_) (fun hg25 => ?_)
        · replace h := Go.L.ite_p (of_decide_eq_true hg25) h
          refine S_guarded rfl rfl hg25 ?_
          refine S_v (RunsAt_pu rfl) rfl ?_
          refine S_guarded rfl rfl hg25 ?_
          refine S_v (r_len rfl Try.underlying22 hv1_0) rfl ?_
          refine S_guarded rfl rfl hg25 ?_
          refine S_v (RunsAt_pu rfl) rfl ?_
          refine S_guarded rfl rfl hg25 ?_
          refine S_v (r_len rfl Try.underlying43 hv1_1) rfl ?_
          refine S_guarded rfl rfl hg25 ?_
          obtain ⟨hk27, h⟩ := Go.L.chk_some h
          refine S_v (r_ar64 rfl rfl rfl hk27) rfl ?_
          refine S_guarded rfl rfl hg25 ?_
          refine S_v (RunsAt_pu rfl) rfl ?_
          refine S_v (r_pickT rfl hg25 rfl) rfl ?_
          refine S_pu 1 rfl ?_
          refine S_seqnil ?_
          refine W_ret ?_
          refine At_seq_ret ?_
          obtain rfl := Option.some.inj h
          refine At_body rfl rfl ?_
          exact ⟨hL22.ext, rfl⟩
        · replace h := Go.L.ite_n (of_decide_eq_false hg25) h
          refine S_unwanted rfl rfl hg25 rfl ?_
          refine S_unwanted rfl rfl hg25 rfl ?_
          refine S_unwanted rfl rfl hg25 rfl ?_
          refine S_unwanted rfl rfl hg25 rfl ?_
          refine S_unwanted rfl rfl hg25 rfl ?_
          refine S_unwanted rfl rfl hg25 rfl ?_
          refine S_v (r_pickF rfl hg25 rfl) rfl ?_
          refine S_pu 1 rfl ?_
          refine S_seqnil ?_
          refine W_ret ?_
          refine At_seq_ret ?_
          obtain rfl := Option.some.inj h
          refine At_body rfl rfl ?_
          exact ⟨hL22.ext, rfl⟩
      · replace h := Go.L.ite_f hg23 h
        refine S_unwanted rfl rfl hg23 rfl ?_
        refine S_unwanted rfl rfl hg23 rfl ?_
        refine S_unwanted rfl rfl hg23 rfl ?_
        refine S_v (r_pickF rfl hg23 rfl) rfl ?_
        refine S_pu 1 rfl ?_
        refine S_unwanted rfl rfl rfl rfl ?_
        refine S_unwanted rfl rfl rfl rfl ?_
        refine S_unwanted rfl rfl rfl rfl ?_
        refine S_unwanted rfl rfl rfl rfl ?_
        refine S_unwanted rfl rfl rfl rfl ?_
        refine S_unwanted rfl rfl rfl rfl ?_
        refine S_v (r_pickF rfl rfl rfl) rfl ?_
        refine S_pu 1 rfl ?_
        refine S_seqnil ?_
        refine W_ret ?_
        refine At_seq_ret ?_
        obtain rfl := Option.some.inj h
        refine At_body rfl rfl ?_
        exact ⟨hL22.ext, rfl⟩
    · replace h := Go.L.ite_p hc20 h
      refine W_skip ?_
      refine At_seq ?_
      refine W_seq ?_
      refine W_seqr ?_
      refine S_pu 1 rfl ?_
      refine S_v (r_len rfl Try.underlying23 h0_0) rfl ?_
      refine S_pu 2 rfl ?_
      refine S_split (s := 46) rfl (fun hg31 => ?_) (fun hg31 => ?_)
      · replace h := Go.L.ite_p (of_decide_eq_true hg31) h
        refine S_unwanted rfl rfl hg31 rfl ?_
        refine S_unwanted rfl rfl hg31 rfl ?_
        refine S_unwanted rfl rfl hg31 rfl ?_
        refine S_unwanted rfl rfl hg31 rfl ?_
        refine S_unwanted rfl rfl hg31 rfl ?_
        refine S_unwanted rfl rfl hg31 rfl ?_
        refine S_v (r_pickT rfl hg31 rfl) rfl ?_
        refine S_seqnil ?_
        refine W_true rfl ?_
        refine W_seqd (.q 0 (.q 1 (.q 2 (.q 3 (.q 4 (.q 5 (.q 6 (.q 7 (.q 8 (.q 9 (.q 10 (.q 11 (.q 12 (.q 13 (.q 14 (.q 15 (.q 16 (.tail 17)))))))))))))))))) mixed (by kernel_rfl) (fun w33 hx33 => ?_)
        have hL34 := hL8.call hx33
        have hle34 := fz_ext hL8 hx33
        replace hv1_0 := hv1_0.mono (gz_mono hH hle34)
        replace hv1_1 := hv1_1.mono (gz_mono hH hle34)
        refine D_v (r_field rfl Try.underlying25 rfl zr3 (by decide)) rfl rfl ?_
        refine D_v (r_loadB1 1 rfl Try.underlying3 rfl hL34 rfl rfl) rfl rfl ?_
        refine D_pu 2 rfl ?_
        refine D_split (s := 57) rfl (fun hg35 => ?_) (fun hg35 => ?_)
        · replace h := Go.L.ite_p (of_decide_eq_true hg35) h
          refine D_no rfl rfl rfl rfl hg35 rfl ?_
          refine D_no rfl rfl rfl rfl hg35 rfl ?_
          refine D_no rfl rfl rfl rfl hg35 rfl ?_
          refine D_no rfl rfl rfl rfl hg35 rfl ?_
          refine D_no2 rfl rfl rfl rfl rfl ?_
          refine D_no2 rfl rfl rfl rfl rfl ?_
          refine D_no2 rfl rfl rfl rfl rfl ?_
          refine D_no2 rfl rfl rfl rfl rfl ?_
          refine D_no2 rfl rfl rfl rfl rfl ?_
          refine D_no2 rfl rfl rfl rfl rfl ?_
          refine D_no rfl rfl rfl rfl hg35 rfl ?_
          refine D_v (r_pickT rfl hg35 rfl) rfl rfl ?_
          refine D_pu 1 rfl ?_
          refine D_tail (fun w37 hx37 => ?_)
          have hL38 := hL34.call hx37
          have hle38 := fz_ext hL34 hx37
          replace hv1_0 := hv1_0.mono (gz_mono hH hle38)
          replace hv1_1 := hv1_1.mono (gz_mono hH hle38)
          refine S_seqnil ?_
          refine W_ret ?_
          refine At_seq_ret ?_
          obtain rfl := Option.some.inj h
          refine At_body rfl rfl ?_
          exact ⟨hL38.ext, rfl⟩
        · replace h := Go.L.ite_n (of_decide_eq_false hg35) h
          refine D_vg (r_loadBN 1 rfl Try.underlying25 rfl zr25 hL34 rfl) rfl rfl rfl rfl hg35 rfl ?_
          refine D_callg rfl rfl rfl rfl hg35 rfl rfl (fun w40 hx40 => rat_l _ _ (Le.refl _) ) ?_
          refine D_vg (r_eqA rfl rfl eqg25 (eq25 _ _ _ _ )) rfl rfl rfl rfl hg35 rfl ?_
          refine D_vg (RunsAt_pu rfl) rfl rfl rfl rfl hg35 rfl ?_
          refine D_split (s := 61) rfl (fun hg41 => ?_) (fun hg41 => ?_)
          · replace h := Go.L.ite_p (of_decide_eq_true hg41) h
            refine D_vg (RunsAt_pu rfl) rfl rfl rfl rfl hg41 rfl ?_
            refine D_vg (r_len rfl Try.underlying22 hv1_0) rfl rfl rfl rfl hg41 rfl ?_
            refine D_vg (RunsAt_pu rfl) rfl rfl rfl rfl hg41 rfl ?_
            refine D_vg (r_len rfl Try.underlying43 hv1_1) rfl rfl rfl rfl hg41 rfl ?_
            obtain ⟨hk43, h⟩ := Go.L.chk_some h
            refine D_vg (r_ar64 rfl rfl rfl hk43) rfl rfl rfl rfl hg41 rfl ?_
            refine D_vg (RunsAt_pu rfl) rfl rfl rfl rfl hg41 rfl ?_
            refine D_vg (r_pickT rfl hg41 rfl) rfl rfl rfl rfl hg35 rfl ?_
            refine D_v (r_pickF rfl hg35 rfl) rfl rfl ?_
            refine D_pu 1 rfl ?_
            refine D_tail (fun w44 hx44 => ?_)
            have hL45 := hL34.call hx44
            have hle45 := fz_ext hL34 hx44
            replace hv1_0 := hv1_0.mono (gz_mono hH hle45)
            replace hv1_1 := hv1_1.mono (gz_mono hH hle45)
            refine S_seqnil ?_
            refine W_ret ?_
            refine At_seq_ret ?_
            obtain rfl := Option.some.inj h
            refine At_body rfl rfl ?_
            exact ⟨hL45.ext, rfl⟩
          · replace h := Go.L.ite_n (of_decide_eq_false hg41) h
            refine D_no rfl rfl rfl rfl hg41 rfl ?_
            refine D_no rfl rfl rfl rfl hg41 rfl ?_
            refine D_no rfl rfl rfl rfl hg41 rfl ?_
            refine D_no rfl rfl rfl rfl hg41 rfl ?_
            refine D_no rfl rfl rfl rfl hg41 rfl ?_
            refine D_no rfl rfl rfl rfl hg41 rfl ?_
            refine D_vg (r_pickF rfl hg41 rfl) rfl rfl rfl rfl hg35 rfl ?_
            refine D_v (r_pickF rfl hg35 rfl) rfl rfl ?_
            refine D_pu 1 rfl ?_
            refine D_tail (fun w47 hx47 => ?_)
            have hL48 := hL34.call hx47
            have hle48 := fz_ext hL34 hx47
            replace hv1_0 := hv1_0.mono (gz_mono hH hle48)
            replace hv1_1 := hv1_1.mono (gz_mono hH hle48)
            refine S_seqnil ?_
            refine W_ret ?_
            refine At_seq_ret ?_
            obtain rfl := Option.some.inj h
            refine At_body rfl rfl ?_
            exact ⟨hL48.ext, rfl⟩
      · replace h := Go.L.ite_n (of_decide_eq_false hg31) h
        refine S_guarded rfl rfl hg31 ?_
        refine S_v (RunsAt_pu rfl) rfl ?_
        refine S_guarded rfl rfl hg31 ?_
        obtain ⟨hk51, h⟩ := Go.L.chk_some h
        refine S_index rfl rfl Try.underlying23 zr32 h0_0 ((0 : Int).toNat) (Int.toNat_of_nonneg hk51.1).symm (idx_lt hk51) rfl ?_
        rintro p50 _ ⟨_, _, rfl, rfl, ⟨e50v1, rfl, e50h1⟩⟩ hp50
        refine S_guarded rfl rfl hg31 ?_
        refine S_v (r_field rfl Try.underlying32 rfl zr22 (by decide)) rfl ?_
        have hp52 := hp50.add 1
        refine S_guarded rfl rfl hg31 ?_
        refine S_v (r_load1 rfl Try.underlying22 rfl hp52 (hH.trans hL8.arg)) rfl ?_
        refine S_guarded rfl rfl hg31 ?_
        refine S_v (r_len rfl Try.underlying22 e50h1) rfl ?_
        refine S_guarded rfl rfl hg31 ?_
        refine S_v (RunsAt_pu rfl) rfl ?_
        refine S_v (r_pickF rfl hg31 rfl) rfl ?_
        refine S_seqnil ?_
        refine W_if rfl (fun hc53 => ?_) (fun hc53 => ?_)
        · replace h := Go.L.ite_p hc53 h
          refine W_seqd (.q 0 (.q 1 (.q 2 (.q 3 (.q 4 (.q 5 (.q 6 (.q 7 (.q 8 (.q 9 (.q 10 (.q 11 (.q 12 (.q 13 (.q 14 (.q 15 (.q 16 (.tail 17)))))))))))))))))) mixed (by kernel_rfl) (fun w55 hx55 => ?_)
          have hL56 := hL8.call hx55
          have hle56 := fz_ext hL8 hx55
          replace hv1_0 := hv1_0.mono (gz_mono hH hle56)
          replace hv1_1 := hv1_1.mono (gz_mono hH hle56)
          refine D_v (r_field rfl Try.underlying25 rfl zr3 (by decide)) rfl rfl ?_
          refine D_v (r_loadB1 1 rfl Try.underlying3 rfl hL56 rfl rfl) rfl rfl ?_
          refine D_pu 2 rfl ?_
          refine D_split (s := 57) rfl (fun hg57 => ?_) (fun hg57 => ?_)
          · replace h := Go.L.ite_p (of_decide_eq_true hg57) h
            refine D_no rfl rfl rfl rfl hg57 rfl ?_
            refine D_no rfl rfl rfl rfl hg57 rfl ?_
            refine D_no rfl rfl rfl rfl hg57 rfl ?_
            refine D_no rfl rfl rfl rfl hg57 rfl ?_
            refine D_no2 rfl rfl rfl rfl rfl ?_
            refine D_no2 rfl rfl rfl rfl rfl ?_
            refine D_no2 rfl rfl rfl rfl rfl ?_
            refine D_no2 rfl rfl rfl rfl rfl ?_
            refine D_no2 rfl rfl rfl rfl rfl ?_
            refine D_no2 rfl rfl rfl rfl rfl ?_
            refine D_no rfl rfl rfl rfl hg57 rfl ?_
            refine D_v (r_pickT rfl hg57 rfl) rfl rfl ?_
            refine D_pu 1 rfl ?_
            refine D_tail (fun w59 hx59 => ?_)
            have hL60 := hL56.call hx59
            have hle60 := fz_ext hL56 hx59
            replace hv1_0 := hv1_0.mono (gz_mono hH hle60)
            replace hv1_1 := hv1_1.mono (gz_mono hH hle60)
            refine S_seqnil ?_
            refine W_ret ?_
            refine At_seq_ret ?_
            obtain rfl := Option.some.inj h
            refine At_body rfl rfl ?_
            exact ⟨hL60.ext, rfl⟩
          · replace h := Go.L.ite_n (of_decide_eq_false hg57) h
            refine D_vg (r_loadBN 1 rfl Try.underlying25 rfl zr25 hL56 rfl) rfl rfl rfl rfl hg57 rfl ?_
            refine D_callg rfl rfl rfl rfl hg57 rfl rfl (fun w62 hx62 => rat_l _ _ (Le.refl _) ) ?_
            refine D_vg (r_eqA rfl rfl eqg25 (eq25 _ _ _ _ )) rfl rfl rfl rfl hg57 rfl ?_
            refine D_vg (RunsAt_pu rfl) rfl rfl rfl rfl hg57 rfl ?_
            refine D_split (s := 61) rfl (fun hg63 => ?_) (fun hg63 => ?_)
            · replace h := Go.L.ite_p (of_decide_eq_true hg63) h
              refine D_vg (RunsAt_pu rfl) rfl rfl rfl rfl hg63 rfl ?_
              refine D_vg (r_len rfl Try.underlying22 hv1_0) rfl rfl rfl rfl hg63 rfl ?_
              refine D_vg (RunsAt_pu rfl) rfl rfl rfl rfl hg63 rfl ?_
              refine D_vg (r_len rfl Try.underlying43 hv1_1) rfl rfl rfl rfl hg63 rfl ?_
              obtain ⟨hk65, h⟩ := Go.L.chk_some h
              refine D_vg (r_ar64 rfl rfl rfl hk65) rfl rfl rfl rfl hg63 rfl ?_
              refine D_vg (RunsAt_pu rfl) rfl rfl rfl rfl hg63 rfl ?_
              refine D_vg (r_pickT rfl hg63 rfl) rfl rfl rfl rfl hg57 rfl ?_
              refine D_v (r_pickF rfl hg57 rfl) rfl rfl ?_
              refine D_pu 1 rfl ?_
              refine D_tail (fun w66 hx66 => ?_)
              have hL67 := hL56.call hx66
              have hle67 := fz_ext hL56 hx66
              replace hv1_0 := hv1_0.mono (gz_mono hH hle67)
              replace hv1_1 := hv1_1.mono (gz_mono hH hle67)
              refine S_seqnil ?_
              refine W_ret ?_
              refine At_seq_ret ?_
              obtain rfl := Option.some.inj h
              refine At_body rfl rfl ?_
              exact ⟨hL67.ext, rfl⟩
            · replace h := Go.L.ite_n (of_decide_eq_false hg63) h
              refine D_no rfl rfl rfl rfl hg63 rfl ?_
              refine D_no rfl rfl rfl rfl hg63 rfl ?_
              refine D_no rfl rfl rfl rfl hg63 rfl ?_
              refine D_no rfl rfl rfl rfl hg63 rfl ?_
              refine D_no rfl rfl rfl rfl hg63 rfl ?_
              refine D_no rfl rfl rfl rfl hg63 rfl ?_
              refine D_vg (r_pickF rfl hg63 rfl) rfl rfl rfl rfl hg57 rfl ?_
              refine D_v (r_pickF rfl hg57 rfl) rfl rfl ?_
              refine D_pu 1 rfl ?_
              refine D_tail (fun w69 hx69 => ?_)
              have hL70 := hL56.call hx69
              have hle70 := fz_ext hL56 hx69
              replace hv1_0 := hv1_0.mono (gz_mono hH hle70)
              replace hv1_1 := hv1_1.mono (gz_mono hH hle70)
              refine S_seqnil ?_
              refine W_ret ?_
              refine At_seq_ret ?_
              obtain rfl := Option.some.inj h
              refine At_body rfl rfl ?_
              exact ⟨hL70.ext, rfl⟩
        · replace h := Go.L.ite_n hc53 h
          refine W_skip ?_
          refine At_seq ?_
          refine W_seqr ?_
          refine S_pu 2 rfl ?_
          obtain ⟨x72, hb72, h⟩ := Go.L.bind_some h
          refine S_callL rfl rfl hL8 (law4_mended_ok _ _ (gz_le hH hL8) (h0_0.mono (gz_left hH)) hb72) ?_
          rintro _ w73 ⟨u73_0, u73_1, rfl, hR73_0, hR73_1⟩ hx73 hL73 hle73
          have hv73_0 := hR73_0.vecG hH hL8 hx73
          have hv73_1 := hR73_1.vecG hH hL8 hx73
          replace hv1_0 := hv1_0.mono (gz_mono hH hle73)
          replace hv1_1 := hv1_1.mono (gz_mono hH hle73)
          refine S_pu 7 rfl ?_
          refine S_seqnil ?_
          refine W_seq ?_
          refine W_seqr ?_
          refine S_pu 2 rfl ?_
          refine S_seqnil ?_
          refine W_cond rfl (fun hc74 => ?_) (fun hc74 => ?_)
          · replace h := Go.L.ite_t hc74 h
            refine W_seqd (.q 0 (.q 1 (.q 2 (.q 3 (.q 4 (.q 5 (.q 6 (.q 7 (.q 8 (.q 9 (.q 10 (.q 11 (.tail 12))))))))))))) mixed (by kernel_rfl) (fun w76 hx76 => ?_)
            have hL77 := hL73.call hx76
            have hle77 := fz_ext hL73 hx76
            replace hv1_0 := hv1_0.mono (gz_mono hH hle77)
            replace hv1_1 := hv1_1.mono (gz_mono hH hle77)
            refine D_v (r_loadBN 1 rfl Try.underlying25 rfl zr25 hL77 rfl) rfl rfl ?_
            refine D_call rfl rfl rfl (fun w78 hx78 => rat_l _ _ (Le.refl _) ) ?_
            refine D_v (r_eqA rfl rfl eqg25 (eq25 _ _ _ _ )) rfl rfl ?_
            refine D_pu 1 rfl ?_
            refine D_split (s := 82) rfl (fun hg79 => ?_) (fun hg79 => ?_)
            · replace h := Go.L.ite_p (of_decide_eq_true hg79) h
              refine D_vg (RunsAt_pu rfl) rfl rfl rfl rfl hg79 rfl ?_
              refine D_vg (r_len rfl Try.underlying22 hv1_0) rfl rfl rfl rfl hg79 rfl ?_
              refine D_vg (RunsAt_pu rfl) rfl rfl rfl rfl hg79 rfl ?_
              refine D_vg (r_len rfl Try.underlying43 hv1_1) rfl rfl rfl rfl hg79 rfl ?_
              obtain ⟨hk81, h⟩ := Go.L.chk_some h
              refine D_vg (r_ar64 rfl rfl rfl hk81) rfl rfl rfl rfl hg79 rfl ?_
              refine D_vg (RunsAt_pu rfl) rfl rfl rfl rfl hg79 rfl ?_
              refine D_v (r_pickT rfl hg79 rfl) rfl rfl ?_
              refine D_pu 1 rfl ?_
              refine D_tail (fun w82 hx82 => ?_)
              have hL83 := hL77.call hx82
              have hle83 := fz_ext hL77 hx82
              replace hv1_0 := hv1_0.mono (gz_mono hH hle83)
              replace hv1_1 := hv1_1.mono (gz_mono hH hle83)
              refine S_seqnil ?_
              refine W_ret ?_
              refine At_seq_ret ?_
              obtain rfl := Option.some.inj h
              refine At_body rfl rfl ?_
              exact ⟨hL83.ext, rfl⟩
            · replace h := Go.L.ite_n (of_decide_eq_false hg79) h
              refine D_no rfl rfl rfl rfl hg79 rfl ?_
              refine D_no rfl rfl rfl rfl hg79 rfl ?_
              refine D_no rfl rfl rfl rfl hg79 rfl ?_
              refine D_no rfl rfl rfl rfl hg79 rfl ?_
              refine D_no rfl rfl rfl rfl hg79 rfl ?_
              refine D_no rfl rfl rfl rfl hg79 rfl ?_
              refine D_v (r_pickF rfl hg79 rfl) rfl rfl ?_
              refine D_pu 1 rfl ?_
              refine D_tail (fun w85 hx85 => ?_)
              have hL86 := hL77.call hx85
              have hle86 := fz_ext hL77 hx85
              replace hv1_0 := hv1_0.mono (gz_mono hH hle86)
              replace hv1_1 := hv1_1.mono (gz_mono hH hle86)
              refine S_seqnil ?_
              refine W_ret ?_
              refine At_seq_ret ?_
              obtain rfl := Option.some.inj h
              refine At_body rfl rfl ?_
              exact ⟨hL86.ext, rfl⟩
          · replace h := Go.L.ite_f hc74 h
            refine W_skip ?_
            refine At_seq ?_
            refine W_seqr ?_
            refine S_v (r_field rfl Try.underlying25 rfl zr3 (by decide)) rfl ?_
            refine S_v (r_loadB1 1 rfl Try.underlying3 rfl hL73 rfl rfl) rfl ?_
            refine S_pu 2 rfl ?_
            refine S_split (s := 93) rfl (fun hg88 => ?_) (fun hg88 => ?_)
            · replace h := Go.L.ite_p (of_decide_eq_true hg88) h
              refine S_guarded rfl rfl hg88 ?_
              refine S_v (RunsAt_pu rfl) rfl ?_
              refine S_guarded rfl rfl hg88 ?_
              refine S_v (RunsAt_pu rfl) rfl ?_
              refine S_guarded rfl rfl hg88 ?_
              refine S_callL rfl rfl hL73 (same_l _ _ (gz_le hH hL73) hv1_0 hv73_0) ?_
              rintro _ w90 rfl hx90 hL90 hle90
              replace hv1_0 := hv1_0.mono (gz_mono hH hle90)
              replace hv1_1 := hv1_1.mono (gz_mono hH hle90)
              replace hv73_0 := hv73_0.mono (gz_mono hH hle90)
              replace hv73_1 := hv73_1.mono (gz_mono hH hle90)
              refine S_v (r_pickT rfl hg88 rfl) rfl ?_
              refine S_pu 1 rfl ?_
              refine S_split (s := 98) rfl (fun hg91 => ?_) (fun hg91 => ?_)
              · replace h := Go.L.ite_p (of_decide_eq_true hg91) h
                refine S_guarded rfl rfl hg91 ?_
                refine S_v (RunsAt_pu rfl) rfl ?_
                refine S_guarded rfl rfl hg91 ?_
                refine S_v (RunsAt_pu rfl) rfl ?_
                refine S_guarded rfl rfl hg91 ?_
                refine S_callL rfl rfl hL90 (ints_l _ _ (gz_le hH hL90) hv1_1 hv73_1) ?_
                rintro _ w93 rfl hx93 hL93 hle93
                replace hv1_0 := hv1_0.mono (gz_mono hH hle93)
                replace hv1_1 := hv1_1.mono (gz_mono hH hle93)
                replace hv73_0 := hv73_0.mono (gz_mono hH hle93)
                replace hv73_1 := hv73_1.mono (gz_mono hH hle93)
                refine S_v (r_pickT rfl hg91 rfl) rfl ?_
                refine S_pu 1 rfl ?_
                refine S_seqnil ?_
                refine W_ret ?_
                obtain rfl := Option.some.inj h
                refine At_body rfl rfl ?_
                exact ⟨hL93.ext, rfl⟩
              · replace h := Go.L.ite_n (of_decide_eq_false hg91) h
                refine S_unwanted rfl rfl hg91 rfl ?_
                refine S_unwanted rfl rfl hg91 rfl ?_
                refine S_unwanted rfl rfl hg91 rfl ?_
                refine S_v (r_pickF rfl hg91 rfl) rfl ?_
                refine S_pu 1 rfl ?_
                refine S_seqnil ?_
                refine W_ret ?_
                obtain rfl := Option.some.inj h
                refine At_body rfl rfl ?_
                exact ⟨hL90.ext, rfl⟩
            · replace h := Go.L.ite_n (of_decide_eq_false hg88) h
              refine S_unwanted rfl rfl hg88 rfl ?_
              refine S_unwanted rfl rfl hg88 rfl ?_
              refine S_unwanted rfl rfl hg88 rfl ?_
              refine S_v (r_pickF rfl hg88 rfl) rfl ?_
              refine S_pu 1 rfl ?_
              refine S_unwanted rfl rfl rfl rfl ?_
              refine S_unwanted rfl rfl rfl rfl ?_
              refine S_unwanted rfl rfl rfl rfl ?_
              refine S_v (r_pickF rfl rfl rfl) rfl ?_
              refine S_pu 1 rfl ?_
              refine S_seqnil ?_
              refine W_ret ?_
              obtain rfl := Option.some.inj h
              refine At_body rfl rfl ?_
              exact ⟨hL73.ext, rfl⟩
end Go.Proofs.Ytidedcbaahiplaa
