/- Contracts: the reference for Split. -/
import Derived.Test.YtidedcbaahiplaaC5
import Derived.KernelRfl
namespace Go.Proofs.Ytidedcbaahiplaa
open Go Go.E Go.RowKit
theorem of_ndecide {p : Prop} [Decidable p] (h : (!decide p) = true) : ¬ p := by simpa using h
theorem el1 {H : PH} {k1 : Int} {d1 : Value} {a : List UInt8} (h1 : Vec .byte H d1 a) : Elems shr H [(k1, a)] [.int .i64 k1, d1] := .cons (c := [.int .i64 k1, d1]) ⟨[.int .i64 k1], [d1], rfl, rfl, d1, rfl, h1⟩ .nil
theorem el2 {H : PH} {k1 k2 : Int} {d1 d2 : Value} {a b : List UInt8} (h1 : Vec .byte H d1 a) (h2 : Vec .byte H d2 b) : Elems shr H [(k1, a), (k2, b)] [.int .i64 k1, d1, .int .i64 k2, d2] := .cons (c := [.int .i64 k1, d1]) ⟨[.int .i64 k1], [d1], rfl, rfl, d1, rfl, h1⟩ (el1 h2)
theorem el3 {H : PH} {k1 k2 k3 : Int} {d1 d2 d3 : Value} {a b c : List UInt8} (h1 : Vec .byte H d1 a) (h2 : Vec .byte H d2 b) (h3 : Vec .byte H d3 c) : Elems shr H [(k1, a), (k2, b), (k3, c)] [.int .i64 k1, d1, .int .i64 k2, d2, .int .i64 k3, d3] := .cons (c := [.int .i64 k1, d1]) ⟨[.int .i64 k1], [d1], rfl, rfl, d1, rfl, h1⟩ (el2 h2 h3)
theorem of_ndecide2 {p : Prop} [Decidable p] (h : (!decide p) = false) : p := by simpa using h
set_option maxRecDepth 10000 in
theorem range_ok (w : World) {c j n lo hi ix : Int} :
    Ok Try.prog 20 [.agg #[.int .i64 c, .int .i64 j], .int .i64 n, .int .i64 lo, .int .i64 hi, .int .i64 ix] w (fun v w' => Ext w w' ∧ v = .agg #[.int .i64 (M.rgF (c, j) n lo hi ix).1, .int .i64 (M.rgF (c, j) n lo hi ix).2]) := by
  refine Ok_enter (n := 24) [(0, .agg #[.int .i64 c, .int .i64 j]), (1, .int .i64 n), (2, .int .i64 lo), (3, .int .i64 hi), (4, .int .i64 ix)] Try.func20 rfl rfl rfl rfl rfl ?_
  have hL := Lcl.start w
  refine W_seqr ?_
  refine S_box (t := 25) rfl rfl rfl hL ?_
  intro w1 b1 hL1 hle1 _
  refine S_alloc zr25 rfl rfl hL1 ?_
  intro w2 b2 hL2 hle2 _
  refine S_seqnil ?_
  refine W_seq ?_
  refine W_seqr ?_
  refine S_v (r_field rfl Try.underlying25 rfl zr3 (by decide)) rfl ?_
  refine S_v (r_loadB1 1 rfl Try.underlying3 rfl hL2 rfl rfl) rfl ?_
  refine S_pu 2 rfl ?_
  refine S_split (s := 14) rfl (fun hg3 => ?_) (fun hg3 => ?_)
  · have hgt := of_decide_eq_true hg3
    refine S_guarded rfl rfl hg3 ?_
    refine S_v (RunsAt_pu rfl) rfl ?_
    refine S_guarded rfl rfl hg3 ?_
    refine S_v (RunsAt_pu rfl) rfl ?_
    refine S_guarded rfl rfl hg3 ?_
    refine S_v (RunsAt_pu rfl) rfl ?_
    refine S_guarded rfl rfl hg3 ?_
    refine S_callL rfl rfl hL2 (in_ok _ ) ?_
    rintro _ w4 rfl hx4 hL4 hle4
    refine S_guarded rfl rfl hg3 ?_
    refine S_v (RunsAt_pu rfl) rfl ?_
    refine S_v (r_pickT rfl hg3 rfl) rfl ?_
    refine S_seqnil ?_
    refine W_ifn rfl (fun hr => ?_) (fun hr => ?_)
    · refine W_seqr ?_
      refine S_pu 1 rfl ?_
      refine S_callL rfl rfl hL4 (rat_ok _ ) ?_
      rintro _ w5 rfl hx5 hL5 hle5
      refine S_storeBN 0 rfl rfl rfl zr25 hL5 rfl rfl (onc rfl (onc rfl on0)) ?_
      intro w6 hL6 hle6
      refine S_seqnil ?_
      refine W_ret ?_
      refine At_seq_ret ?_
      refine At_got1 rfl (.cell rfl Try.underlying25 rfl zr25 (box_ptr (i := 0) hL6 rfl)) ?_
      exact ⟨hL6.ext, by rw [M.rgF, if_pos ⟨hgt, hr⟩]; rfl⟩
    · refine W_skip ?_
      refine At_seq ?_
      refine W_seqr ?_
      refine S_v (r_loadBN 1 rfl Try.underlying25 rfl zr25 hL4 rfl) rfl ?_
      refine S_storeBN 0 rfl rfl rfl zr25 hL4 rfl rfl (onc rfl (onc rfl on0)) ?_
      intro w7 hL7 hle7
      refine S_seqnil ?_
      refine W_ret ?_
      refine At_got1 rfl (.cell rfl Try.underlying25 rfl zr25 (box_ptr (i := 0) hL7 rfl)) ?_
      exact ⟨hL7.ext, by rw [M.rgF, if_neg (fun h => h.2 hr)]; rfl⟩
  · have hgf := of_decide_eq_false hg3
    refine S_unwanted rfl rfl hg3 rfl ?_
    refine S_unwanted rfl rfl hg3 rfl ?_
    refine S_unwanted rfl rfl hg3 rfl ?_
    refine S_unwanted rfl rfl hg3 rfl ?_
    refine S_unwanted rfl rfl hg3 rfl ?_
    refine S_v (r_pickF rfl hg3 rfl) rfl ?_
    refine S_seqnil ?_
    refine W_false rfl ?_
    refine W_skip ?_
    refine At_seq ?_
    refine W_seqr ?_
    refine S_v (r_loadBN 1 rfl Try.underlying25 rfl zr25 hL2 rfl) rfl ?_
    refine S_storeBN 0 rfl rfl rfl zr25 hL2 rfl rfl (onc rfl (onc rfl on0)) ?_
    intro w8 hL8 hle8
    refine S_seqnil ?_
    refine W_ret ?_
    refine At_got1 rfl (.cell rfl Try.underlying25 rfl zr25 (box_ptr (i := 0) hL8 rfl)) ?_
    exact ⟨hL8.ext, by rw [M.rgF, if_neg (fun h => hgf h.1)]; rfl⟩

set_option maxRecDepth 10000 in
theorem splitf_ok (w : World) {s : Nat} {m k r : Int} (hs : s ≤ 9223372036854775807) :
    Ok Try.prog 13 [.int .i64 (s : Int), .int .i64 m, .int .i64 k, .int .i64 r] w (fun v w' => Ext w w' ∧ v = .agg #[.int .i64 (M.sfF s m k r).1, .int .i64 (M.sfF s m k r).2]) := by
  refine Ok_enter (n := 32) [(0, .int .i64 (s : Int)), (1, .int .i64 m), (2, .int .i64 k), (3, .int .i64 r)] Try.func13 rfl rfl rfl rfl rfl ?_
  have hL := Lcl.start w
  refine W_seqr ?_
  refine S_alloc zr25 rfl rfl hL ?_
  intro w1 b1 hL1 hle1 _
  refine S_seqnil ?_
  refine W_seq ?_
  refine W_seqr ?_
  refine S_pu 2 rfl ?_
  refine S_seqnil ?_
  refine W_if rfl (fun hb => ?_) (fun hb => ?_)
  · refine W_seqr ?_
    refine S_callL rfl rfl hL1 (rat_ok _ ) ?_
    rintro _ w2 rfl hx2 hL2 hle2
    refine S_storeBN 0 rfl rfl rfl zr25 hL2 rfl rfl (onc rfl (onc rfl on0)) ?_
    intro w3 hL3 hle3
    refine S_seqnil ?_
    refine W_ret ?_
    refine At_seq_ret ?_
    refine At_got1 rfl (.cell rfl Try.underlying25 rfl zr25 (box_ptr (i := 0) hL3 rfl)) ?_
    exact ⟨hL3.ext, by rw [M.sfF, if_pos (by omega)]; rfl⟩
  · refine W_skip ?_
    refine At_seq ?_
    refine W_seqr ?_
    refine S_v (r_build rfl (fun _ => bld25_z _)) rfl ?_
    refine S_pu 1 rfl ?_
    refine S_callL rfl rfl hL1 (range_ok _ ) ?_
    rintro _ w4 rfl hx4 hL4 hle4
    refine S_pu 2 rfl ?_
    refine S_callL rfl rfl hL4 (range_ok _ ) ?_
    rintro _ w5 rfl hx5 hL5 hle5
    refine S_alloc zr25 rfl rfl hL5 ?_
    intro w6 b6 hL6 hle6 _
    refine S_storeBN 0 rfl rfl rfl zr25 hL6 rfl rfl (onc rfl (onc rfl on0)) ?_
    intro w7 hL7 hle7
    refine S_seqnil ?_
    refine W_seq ?_
    refine W_seqr ?_
    refine S_v (r_field rfl Try.underlying25 rfl zr3 (by decide)) rfl ?_
    refine S_v (r_loadB1 0 rfl Try.underlying3 rfl hL7 rfl rfl) rfl ?_
    refine S_pu 2 rfl ?_
    refine S_split (s := 22) rfl (fun hg8 => ?_) (fun hg8 => ?_)
    · have hgt : (M.sfW m k).1 = 0 := of_decide_eq_true hg8
      obtain ⟨q1, q2, q3, q4, q5⟩ := M.sfW_ok hgt
      have h5 : 0 ≤ (m - 1) * (s : Int) := Int.mul_nonneg (by omega) (by omega)
      have h6 : (m - 1) * (s : Int) ≤ 9 * 4096 := Int.mul_le_mul (by omega) (by omega) (by omega) (by omega)
      refine S_guarded rfl rfl hg8 ?_
      refine S_v (RunsAt_pu rfl) rfl ?_
      refine S_guarded rfl rfl hg8 ?_
      refine S_v (RunsAt_pu rfl) rfl ?_
      refine S_guarded rfl rfl hg8 ?_
      refine S_v (r_ar64 rfl rfl rfl (by omega)) rfl ?_
      refine S_guarded rfl rfl hg8 ?_
      refine S_v (RunsAt_pu rfl) rfl ?_
      refine S_guarded rfl rfl hg8 ?_
      refine S_v (r_ar64 rfl rfl rfl (by omega)) rfl ?_
      refine S_guarded rfl rfl hg8 ?_
      refine S_v (RunsAt_pu rfl) rfl ?_
      refine S_v (r_pickT rfl hg8 rfl) rfl ?_
      refine S_seqnil ?_
      refine W_ifn rfl (fun hr => ?_) (fun hr => ?_)
      · refine W_region ?_
        refine S_callL rfl rfl hL7 (rat_ok _ ) ?_
        rintro _ w9 rfl hx9 hL9 hle9
        refine S_storeBN 0 rfl rfl rfl zr25 hL9 rfl rfl (onc rfl (onc rfl on0)) ?_
        intro w10 hL10 hle10
        refine S_nil ?_
        refine At_seq ?_
        refine W_seqr ?_
        refine S_v (r_loadBN 0 rfl Try.underlying25 rfl zr25 hL10 rfl) rfl ?_
        refine S_storeBN 1 rfl rfl rfl zr25 hL10 rfl rfl (onc rfl (onc rfl on0)) ?_
        intro w11 hL11 hle11
        refine S_seqnil ?_
        refine W_ret ?_
        refine At_got1 rfl (.cell rfl Try.underlying25 rfl zr25 (box_ptr (i := 1) hL11 rfl)) ?_
        exact ⟨hL11.ext, by rw [M.sfF, if_neg (by omega), if_pos ⟨hgt, hr⟩]; rfl⟩
      · refine W_skip ?_
        refine At_seq ?_
        refine W_seqr ?_
        refine S_v (r_loadBN 0 rfl Try.underlying25 rfl zr25 hL7 rfl) rfl ?_
        refine S_storeBN 1 rfl rfl rfl zr25 hL7 rfl rfl (onc rfl (onc rfl on0)) ?_
        intro w12 hL12 hle12
        refine S_seqnil ?_
        refine W_ret ?_
        refine At_got1 rfl (.cell rfl Try.underlying25 rfl zr25 (box_ptr (i := 1) hL12 rfl)) ?_
        exact ⟨hL12.ext, by rw [M.sfF, if_neg (by omega), if_neg (fun h => h.2 hr)]; rfl⟩
    · have hgf : ¬ (M.sfW m k).1 = 0 := of_decide_eq_false hg8
      refine S_unwanted rfl rfl hg8 rfl ?_
      refine S_unwanted rfl rfl hg8 rfl ?_
      refine S_unwanted rfl rfl hg8 rfl ?_
      refine S_unwanted rfl rfl hg8 rfl ?_
      refine S_unwanted rfl rfl hg8 rfl ?_
      refine S_unwanted rfl rfl hg8 rfl ?_
      refine S_v (r_pickF rfl hg8 rfl) rfl ?_
      refine S_seqnil ?_
      refine W_false rfl ?_
      refine W_skip ?_
      refine At_seq ?_
      refine W_seqr ?_
      refine S_v (r_loadBN 0 rfl Try.underlying25 rfl zr25 hL7 rfl) rfl ?_
      refine S_storeBN 1 rfl rfl rfl zr25 hL7 rfl rfl (onc rfl (onc rfl on0)) ?_
      intro w13 hL13 hle13
      refine S_seqnil ?_
      refine W_ret ?_
      refine At_got1 rfl (.cell rfl Try.underlying25 rfl zr25 (box_ptr (i := 1) hL13 rfl)) ?_
      exact ⟨hL13.ext, by rw [M.sfF, if_neg (by omega), if_neg (fun h => hgf h.1)]; rfl⟩

set_option maxRecDepth 10000 in
theorem valueat_ok (w : World) {lv : Value} {l : List UInt8} {x : UInt8} (hl : Vec .byte (hp w) lv l) :
    Ok Try.prog 41 [lv, .int .u8 (x.toNat : Int)] w (fun v w' => Ext w w' ∧ v = .int .u8 ((M.va l x).toNat : Int)) := by
  have hll := hl.len_le
  refine Ok_enter (n := 26) [(0, lv), (1, .int .u8 (x.toNat : Int))] Try.func41 rfl rfl rfl rfl rfl ?_
  have hL := Lcl.start w
  refine W_seqr ?_
  refine S_pu 1 rfl ?_
  refine S_seqnil ?_
  refine W_seqr ?_
  refine S_pu 2 rfl ?_
  refine S_seqnil ?_
  refine W_seq ?_
  refine W_seqr ?_
  refine S_pu 1 rfl ?_
  refine S_seqnil ?_
  refine W_block ?_
  refine W_loop (σ := Nat) (fun i => [(5, .int .u8 ((M.evP x i).toNat : Int)), (6, .int .u8 ((M.vaF l x i).toNat : Int)), (7, .int .i64 (i : Int)), (0, lv), (1, .int .u8 (x.toNat : Int)), (4, .int .u8 0)]) (fun i wr => Lcl w [] wr ∧ i ≤ l.length) (fun i => l.length - i) 0 (.int rfl rfl (.int rfl rfl (.int rfl rfl (.cons rfl (.cons rfl (.cons rfl (Sub.nil _))))))) ⟨hL, Nat.zero_le _⟩ ?_
  rintro i wr1 ⟨hL1, hil⟩
  refine W_seq ?_
  refine W_seqr ?_
  refine S_pu 2 rfl ?_
  refine S_v (r_len rfl Try.underlying22 hl) rfl ?_
  refine S_pu 1 rfl ?_
  refine S_seqnil ?_
  refine W_if rfl (fun hc2 => ?_) (fun hc2 => ?_)
  · refine W_skip ?_
    refine At_seq ?_
    refine W_seq ?_
    refine W_block ?_
    refine W_seqr ?_
    refine S_pu 3 rfl ?_
    refine S_index rfl rfl Try.underlying22 zr5 hl i rfl (by omega) rfl ?_
    rintro p3 _ rfl hp3
    refine S_v (r_load1 rfl Try.underlying5 rfl hp3 hL1.arg) rfl ?_
    refine S_pu 1 rfl ?_
    refine S_callL rfl rfl hL1 (times_ok _ ) ?_
    rintro _ w4 rfl hx4 hL4 hle4
    refine S_v (r_bit8 rfl rfl rfl) rfl ?_
    refine S_pu 1 rfl ?_
    refine S_seqnil ?_
    refine W_region ?_
    refine S_pu 2 rfl ?_
    refine S_callL rfl rfl hL4 (times_ok _ ) ?_
    rintro _ w5 rfl hx5 hL5 hle5
    refine S_pu 1 rfl ?_
    refine S_nil ?_
    refine At_block ?_
    refine At_seq ?_
    refine W_region ?_
    refine S_pu 1 rfl ?_
    refine S_v (r_ar64 rfl rfl rfl (by omega)) rfl ?_
    refine S_pu 1 rfl ?_
    refine S_nil ?_
    refine At_round (i + 1) (.cons rfl (.cons rfl (.int rfl (by omega) (.cons rfl (.cons rfl (.cons rfl (Sub.nil _))))))) ⟨hL5, by omega⟩ (by omega)
  · refine W_exit ?_
    refine At_seq_exit ?_
    refine At_loop_exit ?_
    refine At_exit ?_
    refine At_seq ?_
    refine W_seqr ?_
    refine S_pu 2 rfl ?_
    refine S_seqnil ?_
    refine W_ret ?_
    refine At_body rfl rfl ?_
    obtain rfl : i = l.length := (by omega)
    exact ⟨hL1.ext, rfl⟩

set_option maxRecDepth 10000 in
theorem rshare_ok (w : World) {sv rv : Value} {S R : List UInt8} {m : Nat} {k : Int} (hs : Vec .byte (hp w) sv S) (hr : Vec .byte (hp w) rv R) (hn : S.length ≤ 4096) (hm1 : 1 ≤ m) (hm2 : m ≤ 10) (hR : R.length = (m - 1) * S.length) (hk0 : 0 ≤ k) :
    Ok Try.prog 16 [sv, .int .i64 (m : Int), rv, .int .i64 k] w (fun v w' => Ext w w' ∧ ∃ dv, v = .agg #[.int .i64 k, dv] ∧ Own 5 .byte w w' dv (M.shd S m R (M.kb k))) := by
  refine Ok_enter (n := 52) [(0, sv), (1, .int .i64 (m : Int)), (2, rv), (3, .int .i64 k)] Try.func16 rfl rfl rfl rfl rfl ?_
  have hL := Lcl.start w
  refine W_seqr ?_
  refine S_alloc zr32 rfl rfl hL ?_
  intro w1 b1 hL1 hle1 _
  refine S_seqnil ?_
  refine W_seqr ?_
  refine S_pu 1 rfl ?_
  refine S_seqnil ?_
  refine W_seq ?_
  refine W_seqr ?_
  refine S_pu 1 rfl ?_
  refine S_seqnil ?_
  refine W_block ?_
  refine W_loop (σ := Nat × Value) (fun (⟨i, ov⟩ : Nat × Value) => [(9, ov), (10, .int .i64 (i : Int)), (0, sv), (1, .int .i64 (m : Int)), (2, rv), (3, .int .i64 k), (8, .pointer (some ⟨b1, 0, none⟩))]) (fun (⟨i, ov⟩ : Nat × Value) wr => Lcl w [.row ov 5 1 i ((M.shF S m R (M.kb k) i).map bv), .box b1 [.int .i64 0, .slice none 0 0] 32] wr ∧ i ≤ S.length) (fun (⟨i, ov⟩ : Nat × Value) => S.length - i) (0, .slice none 0 0) (.cons rfl (.int rfl rfl (.cons rfl (.cons rfl (.cons rfl (.cons rfl (.cons rfl (Sub.nil _)))))))) ⟨(row_nil hL1 5 1).1, Nat.zero_le _⟩ ?_
  rintro ⟨i, ov⟩ wr2 ⟨hL2, hil⟩
  refine W_seq ?_
  refine W_seqr ?_
  refine S_pu 2 rfl ?_
  refine S_v (r_len rfl Try.underlying22 hs) rfl ?_
  refine S_pu 1 rfl ?_
  refine S_seqnil ?_
  refine W_if rfl (fun hc3 => ?_) (fun hc3 => ?_)
  · refine W_skip ?_
    refine At_seq ?_
    refine W_seq ?_
    refine W_block ?_
    refine W_seqr ?_
    refine S_pu 2 rfl ?_
    refine S_index rfl rfl Try.underlying22 zr5 hs i rfl (by omega) rfl ?_
    rintro p4 _ rfl hp4
    refine S_v (r_load1 rfl Try.underlying5 rfl hp4 hL2.arg) rfl ?_
    refine S_lit (sz := 1) rfl (fun _ => bsl22_1 _ _) rfl (by decide) rfl hL2 ?_
    intro v5 w5 hx5 hL5 hle5 hs5 ho5
    obtain ⟨hL5, hle5⟩ := row_new hL2 hx5 ho5
    refine S_pu 1 rfl ?_
    refine S_seqnil ?_
    refine W_seq ?_
    refine W_seqr ?_
    refine S_pu 1 rfl ?_
    refine S_seqnil ?_
    refine W_block ?_
    refine W_loop (σ := Nat × Value) (fun (⟨j, cv⟩ : Nat × Value) => [(11, cv), (12, .int .i64 ((j : Int) + 1)), (0, sv), (1, .int .i64 (m : Int)), (2, rv), (3, .int .i64 k), (8, .pointer (some ⟨b1, 0, none⟩)), (9, ov), (10, .int .i64 (i : Int))]) (fun (⟨j, cv⟩ : Nat × Value) wr => Lcl w [.row cv 5 1 (j + 1) ((M.cof S R i j).map bv), .row ov 5 1 i ((M.shF S m R (M.kb k) i).map bv), .box b1 [.int .i64 0, .slice none 0 0] 32] wr ∧ j ≤ m - 1) (fun (⟨j, cv⟩ : Nat × Value) => m - 1 - j) (0, v5) (.cons rfl (.int rfl rfl (.cons rfl (.cons rfl (.cons rfl (.cons rfl (.cons rfl (.cons rfl (.cons rfl (Sub.nil _)))))))))) ⟨hL5, Nat.zero_le _⟩ ?_
    rintro ⟨j, cv⟩ wr6 ⟨hL6, hjl⟩
    refine W_seq ?_
    refine W_seqr ?_
    refine S_pu 3 rfl ?_
    refine S_seqnil ?_
    refine W_if rfl (fun hc7 => ?_) (fun hc7 => ?_)
    · have hkn : j * S.length ≤ 9 * 4096 := Nat.mul_le_mul (by omega) hn
      have hlt := M.rnd_lt hR (show j < m - 1 by omega) (show i < S.length by omega)
      refine W_skip ?_
      refine At_seq ?_
      refine W_seq ?_
      refine W_block ?_
      refine W_region ?_
      refine S_pu 3 rfl ?_
      refine S_v (r_ar64 rfl rfl rfl (by omega)) rfl ?_
      refine S_pu 1 rfl ?_
      refine S_v (r_len rfl Try.underlying22 hs) rfl ?_
      refine S_v (r_ar64 rfl rfl rfl (by rw [show (j : Int) + 1 - 1 = (j : Int) by omega]; omega)) rfl ?_
      refine S_pu 1 rfl ?_
      refine S_v (r_ar64 rfl rfl rfl (by rw [show (j : Int) + 1 - 1 = (j : Int) by omega]; omega)) rfl ?_
      refine S_index rfl rfl Try.underlying22 zr5 hr (j * S.length + i) (by rw [show (j : Int) + 1 - 1 = (j : Int) by omega]; omega) hlt rfl ?_
      rintro p8 _ rfl hp8
      refine S_v (r_load1 rfl Try.underlying5 rfl hp8 hL6.arg) rfl ?_
      refine S_lit (sz := 1) rfl (fun _ => bsl22_1 _ _) rfl (by decide) rfl hL6 ?_
      intro v9 w9 hx9 hL9 hle9 hs9 ho9
      replace hs9 := hs9.mono (nw_fz hL6)
      refine S_append 0 rfl rfl Try.underlying22 zr5 rfl (by decide) rfl hL9 rfl (hs9.mono (fz_le _ _)) (onc rfl on0) (by omega) ?_
      intro v10 w10 hL10 hle10
      replace hs9 := hs9.mono hle10
      refine S_pu 1 rfl ?_
      refine S_nil ?_
      refine At_block ?_
      refine At_seq ?_
      refine W_region ?_
      refine S_pu 1 rfl ?_
      refine S_v (r_ar64 rfl rfl rfl (by omega)) rfl ?_
      refine S_pu 1 rfl ?_
      refine S_nil ?_
      refine At_round (j + 1, v10) (.cons rfl (.int rfl (by omega) (.cons rfl (.cons rfl (.cons rfl (.cons rfl (.cons rfl (.cons rfl (.cons rfl (Sub.nil _)))))))))) ⟨(by have h := hL10; rw [M.cof_succ, List.map_append]; exact h), by omega⟩ (by show m - 1 - (j + 1) < m - 1 - j; omega)
    · obtain rfl : j = m - 1 := (by omega)
      refine W_exit ?_
      refine At_seq_exit ?_
      refine At_loop_exit ?_
      refine At_exit ?_
      refine At_seq ?_
      refine W_region ?_
      have hv11 : Vec .byte _ _ (M.cof S R i (m - 1)) := hL6.vecD2 (i := 0) rfl (by rw [M.cof_length]) (elems_bytes _ _)
      have hL11 := hL6.dropAt (i := 0) rfl
      refine S_pu 3 rfl ?_
      refine S_v (r_conv Try.underlying3 Try.underlying5 rfl (conv_64_8 (by omega))) rfl ?_
      refine S_callL rfl rfl hL11 (valueat_ok _ (hv11.mono (fz_le _ _))) ?_
      rintro _ w12 rfl hx12 hL12 hle12
      replace hv11 := hv11.mono hle12
      refine S_lit (sz := 1) rfl (fun _ => bsl22_1 _ _) rfl (by decide) rfl hL12 ?_
      intro v13 w13 hx13 hL13 hle13 hs13 ho13
      replace hv11 := hv11.mono hle13
      replace hs13 := hs13.mono (nw_fz hL12)
      refine S_append 0 rfl rfl Try.underlying22 zr5 rfl (by decide) rfl hL13 rfl (hs13.mono (fz_le _ _)) (onc rfl on0) (by omega) ?_
      intro v14 w14 hL14 hle14
      replace hv11 := hv11.mono hle14
      replace hs13 := hs13.mono hle14
      refine S_pu 1 rfl ?_
      refine S_nil ?_
      refine At_block ?_
      refine At_seq ?_
      refine W_region ?_
      refine S_pu 1 rfl ?_
      refine S_v (r_ar64 rfl rfl rfl (by omega)) rfl ?_
      refine S_pu 1 rfl ?_
      refine S_nil ?_
      refine At_round (i + 1, v14) (.cons rfl (.int rfl (by omega) (.cons rfl (.cons rfl (.cons rfl (.cons rfl (.cons rfl (Sub.nil _)))))))) ⟨(by have h := hL14; rw [M.shF_succ, List.map_append]; exact h), by omega⟩ (by show S.length - (i + 1) < S.length - i; omega)
  · refine W_exit ?_
    refine At_seq_exit ?_
    refine At_loop_exit ?_
    refine At_exit ?_
    refine At_seq ?_
    refine W_seqr ?_
    refine S_pu 2 rfl ?_
    refine S_v (r_build rfl (fun _ => bld32_0_1 _ _ (row_one (hL2.at (i := 0) rfl)) _)) rfl ?_
    refine S_storeBN 1 rfl rfl rfl zr32 hL2 rfl rfl (onc rfl (onc (row_one (hL2.at (i := 0) rfl)) on0)) ?_
    intro w15 hL15 hle15
    refine S_seqnil ?_
    refine W_ret ?_
    refine At_got1 rfl (.cell rfl Try.underlying32 rfl zr32 (box_ptr (i := 1) hL15 rfl)) ?_
    obtain rfl : i = S.length := (by omega)
    exact ⟨hL15.ext, _, rfl, hL15.own' (i := 0) (l := M.shd S m R (M.kb k)) (by rw [M.shd, M.shF_length]; rfl) (elems_bytes _ _)⟩

set_option maxRecDepth 10000 in
theorem samesh_ok (w : World) {av bv2 : Value} {a b : List M.Sh} (ha : Vec shr (hp w) av a) (hb : Vec shr (hp w) bv2 b) :
    Ok Try.prog 15 [av, bv2] w (fun v w' => Ext w w' ∧ v = .bool (decide (a = b))) := by
  have hla := ha.len_le
  have hlb := hb.len_le
  refine Ok_enter (n := 42) [(0, av), (1, bv2)] Try.func15 rfl rfl rfl rfl rfl ?_
  have hL := Lcl.start w
  refine W_seqr ?_
  refine S_pu 1 rfl ?_
  refine S_seqnil ?_
  refine W_seq ?_
  refine W_seqr ?_
  refine S_pu 1 rfl ?_
  refine S_v (r_len rfl Try.underlying23 ha) rfl ?_
  refine S_pu 1 rfl ?_
  refine S_v (r_len rfl Try.underlying23 hb) rfl ?_
  refine S_pu 1 rfl ?_
  refine S_seqnil ?_
  refine W_ifn rfl (fun hlen => ?_) (fun hlen => ?_)
  · refine W_seqr ?_
    refine S_pu 1 rfl ?_
    refine S_seqnil ?_
    refine W_ret ?_
    refine At_seq_ret ?_
    refine At_body rfl rfl ?_
    exact ⟨hL.ext, by rw [decide_eq_false (fun h => hlen (by rw [h]))]⟩
  · replace hlen : a.length = b.length := (by omega)
    refine W_skip ?_
    refine At_seq ?_
    refine W_seq ?_
    refine W_seqr ?_
    refine S_pu 1 rfl ?_
    refine S_seqnil ?_
    refine W_block ?_
    refine W_loop (σ := Nat) (fun k => [(5, .int .i64 (k : Int)), (0, av), (1, bv2)]) (fun k wr => Lcl w [] wr ∧ k ≤ a.length ∧ a.take k = b.take k) (fun k => a.length - k) 0 (.int rfl rfl (.cons rfl (.cons rfl (Sub.nil _)))) ⟨hL, Nat.zero_le _, rfl⟩ ?_
    rintro k wr1 ⟨hL1, hkl, hab⟩
    refine W_seq ?_
    refine W_seqr ?_
    refine S_pu 2 rfl ?_
    refine S_v (r_len rfl Try.underlying23 ha) rfl ?_
    refine S_pu 1 rfl ?_
    refine S_seqnil ?_
    refine W_if rfl (fun hc2 => ?_) (fun hc2 => ?_)
    · refine W_skip ?_
      refine At_seq ?_
      refine W_seq ?_
      refine W_block ?_
      refine W_seqd (.q 0 (.q 1 (.q 2 (.q 3 (.q 4 (.q 5 (.q 6 (.q 7 (.q 8 (.q 9 (.q 10 (.q 11 (.q 12 (.q 13 (.q 14 (.q 15 (.q 16 (.q 17 (.q 18 (.q 19 (.q 20 (.q 21 (.q 22 (.q 23 (.q 24 (.tail 25)))))))))))))))))))))))))) mixed (by kernel_rfl) (fun w3 hx3 => ?_)
      have hL4 := hL1.call hx3
      refine D_pu 2 rfl ?_
      refine D_index rfl rfl rfl Try.underlying23 zr32 ha k rfl (by omega) rfl ?_
      rintro p5 _ ⟨_, _, rfl, rfl, e5v, rfl, e5h⟩ hp5
      refine D_v (r_field rfl Try.underlying32 rfl zr3 (by decide)) rfl rfl ?_
      have hp6 := hp5.add 0
      refine D_v (r_load1 rfl Try.underlying3 rfl hp6 hL4.arg) rfl rfl ?_
      refine D_pu 2 rfl ?_
      refine D_index rfl rfl rfl Try.underlying23 zr32 hb k rfl (by omega) rfl ?_
      rintro p7 _ ⟨_, _, rfl, rfl, e7v, rfl, e7h⟩ hp7
      refine D_v (r_field rfl Try.underlying32 rfl zr3 (by decide)) rfl rfl ?_
      have hp8 := hp7.add 0
      refine D_v (r_load1 rfl Try.underlying3 rfl hp8 hL4.arg) rfl rfl ?_
      refine D_pu 2 rfl ?_
      refine D_split (s := 28) rfl (fun hg9 => ?_) (fun hg9 => ?_)
      · have hkey := of_ndecide hg9
        refine D_no rfl rfl rfl rfl hg9 rfl ?_
        refine D_no rfl rfl rfl rfl hg9 rfl ?_
        refine D_no rfl rfl rfl rfl hg9 rfl ?_
        refine D_no rfl rfl rfl rfl hg9 rfl ?_
        refine D_no rfl rfl rfl rfl hg9 rfl ?_
        refine D_no rfl rfl rfl rfl hg9 rfl ?_
        refine D_no rfl rfl rfl rfl hg9 rfl ?_
        refine D_no rfl rfl rfl rfl hg9 rfl ?_
        refine D_no rfl rfl rfl rfl hg9 rfl ?_
        refine D_no rfl rfl rfl rfl hg9 rfl ?_
        refine D_no rfl rfl rfl rfl hg9 rfl ?_
        refine D_no rfl rfl rfl rfl hg9 rfl ?_
        refine D_v (r_pickT rfl hg9 rfl) rfl rfl ?_
        refine D_tail (fun w10 hx10 => ?_)
        have hL11 := hL4.call hx10
        refine S_seqnil ?_
        refine W_true rfl ?_
        refine W_seqr ?_
        refine S_pu 1 rfl ?_
        refine S_seqnil ?_
        refine W_ret ?_
        refine At_block_ret ?_
        refine At_seq_ret ?_
        refine At_loop_ret ?_
        refine At_block_ret ?_
        refine At_seq_ret ?_
        refine At_body rfl rfl ?_
        exact ⟨hL11.ext, by rw [decide_eq_false (fun h => hkey (by rw [h]))]⟩
      · have hkey := of_ndecide2 hg9
        refine D_vg (RunsAt_pu rfl) rfl rfl rfl rfl hg9 rfl ?_
        refine D_vg (RunsAt_pu rfl) rfl rfl rfl rfl hg9 rfl ?_
        refine D_indexg rfl rfl rfl rfl hg9 rfl rfl Try.underlying23 zr32 ha k rfl (by omega) rfl ?_
        rintro p12 _ ⟨_, _, rfl, rfl, e12v, rfl, e12h⟩ hp12
        refine D_vg (r_field rfl Try.underlying32 rfl zr22 (by decide)) rfl rfl rfl rfl hg9 rfl ?_
        have hp13 := hp12.add 1
        refine D_vg (r_load1 rfl Try.underlying22 rfl hp13 hL4.arg) rfl rfl rfl rfl hg9 rfl ?_
        refine D_vg (RunsAt_pu rfl) rfl rfl rfl rfl hg9 rfl ?_
        refine D_vg (RunsAt_pu rfl) rfl rfl rfl rfl hg9 rfl ?_
        refine D_indexg rfl rfl rfl rfl hg9 rfl rfl Try.underlying23 zr32 hb k rfl (by omega) rfl ?_
        rintro p14 _ ⟨_, _, rfl, rfl, e14v, rfl, e14h⟩ hp14
        refine D_vg (r_field rfl Try.underlying32 rfl zr22 (by decide)) rfl rfl rfl rfl hg9 rfl ?_
        have hp15 := hp14.add 1
        refine D_vg (r_load1 rfl Try.underlying22 rfl hp15 hL4.arg) rfl rfl rfl rfl hg9 rfl ?_
        refine D_callg rfl rfl rfl rfl hg9 rfl rfl (fun w16 hx16 => same_ok _ (e12h.mono (hL4.call hx16).arg) (e14h.mono (hL4.call hx16).arg)) ?_
        refine D_vg (RunsAt_pu rfl) rfl rfl rfl rfl hg9 rfl ?_
        refine D_v (r_pickF rfl hg9 rfl) rfl rfl ?_
        refine D_tail (fun w17 hx17 => ?_)
        have hL18 := hL4.call hx17
        refine S_seqnil ?_
        refine W_ifn rfl (fun hdat => ?_) (fun hdat => ?_)
        · refine W_seqr ?_
          refine S_pu 1 rfl ?_
          refine S_seqnil ?_
          refine W_ret ?_
          refine At_block_ret ?_
          refine At_seq_ret ?_
          refine At_loop_ret ?_
          refine At_block_ret ?_
          refine At_seq_ret ?_
          refine At_body rfl rfl ?_
          exact ⟨hL18.ext, by rw [decide_eq_false (fun h => hdat (by rw [h]))]⟩
        · refine W_skip ?_
          refine At_block ?_
          refine At_seq ?_
          refine W_region ?_
          refine S_pu 1 rfl ?_
          refine S_v (r_ar64 rfl rfl rfl (by omega)) rfl ?_
          refine S_pu 1 rfl ?_
          refine S_nil ?_
          refine At_round (k + 1) (.int rfl (by omega) (.cons rfl (.cons rfl (Sub.nil _)))) ⟨hL18, by omega, eq_take_succ hab (by omega) (by omega) (Prod.ext (by omega) hdat)⟩ (by omega)
    · refine W_exit ?_
      refine At_seq_exit ?_
      refine At_loop_exit ?_
      refine At_exit ?_
      refine At_seq ?_
      refine W_seqr ?_
      refine S_pu 1 rfl ?_
      refine S_seqnil ?_
      refine W_ret ?_
      refine At_body rfl rfl ?_
      exact ⟨hL1.ext, by rw [decide_eq_true (eq_of_take hab (by omega) (by omega))]⟩

set_option maxRecDepth 10000 in
theorem two_ok (w : World) :
    Ok Try.prog 40 [] w (fun v w' => Ext w w' ∧ Own 32 shr w w' v [(1, [6]), (2, [5])]) := by
  refine Ok_enter (n := 6) [] Try.func40 rfl rfl rfl rfl rfl ?_
  have hL := Lcl.start w
  refine W_seqr ?_
  refine S_pu 1 rfl ?_
  refine S_seqnil ?_
  refine W_seqr ?_
  refine S_lit (sz := 1) rfl (fun _ => bsl22_1 _ _) rfl (by decide) rfl hL ?_
  intro v1 w1 hx1 hL1 hle1 hs1 ho1
  obtain ⟨hL1, hle1⟩ := row_new hL hx1 ho1
  have hv2 : Vec .byte _ _ ([6]) := hL1.vecDN (i := 0) rfl rfl (elems_bytes _ [6])
  have hL2 := hL1.dropAt (i := 0) rfl
  refine S_v (r_build rfl (fun _ => bld32_0_1 _ _ hv2.one _)) rfl ?_
  refine S_lit (sz := 1) rfl (fun _ => bsl22_1 _ _) rfl (by decide) rfl hL2 ?_
  intro v3 w3 hx3 hL3 hle3 hs3 ho3
  obtain ⟨hL3, hle3⟩ := row_new hL2 hx3 ho3
  replace hv2 := hv2.mono (nf_mono hle3)
  have hv4 : Vec .byte _ _ ([5]) := hL3.vecDN (i := 0) rfl rfl (elems_bytes _ [5])
  have hL4 := hL3.dropAt (i := 0) rfl
  replace hv2 := hv2.mono (nf_mono (fz_dropAt (i := 0) rfl))
  refine S_v (r_build rfl (fun _ => bld32_0_1 _ _ hv4.one _)) rfl ?_
  refine S_lit (sz := 2) rfl (fun _ => bsl23_2 _ _ _ _ _) rfl (by decide) rfl hL4 ?_
  intro v5 w5 hx5 hL5 hle5 hs5 ho5
  obtain ⟨hL5, hle5⟩ := row_new hL4 hx5 ho5
  replace hv2 := hv2.mono (nf_mono hle5)
  replace hv4 := hv4.mono (nf_mono hle5)
  refine S_pu 1 rfl ?_
  refine S_seqnil ?_
  refine W_ret ?_
  refine At_body rfl rfl ?_
  exact ⟨hL5.ext, hL5.ownN (i := 0) rfl (el2 hv2 hv4)⟩

theorem split_open (w : World) {sv : Value} (hs : Vec .byte (hp w) sv [7]) {rv : Value} (hr : Vec .byte (hp w) rv [1])  : Ok Try.prog 12 [sv, .int .i64 2, .int .i64 2, rv] w (fun v w' => Ext w w' ∧ ∃ ov, v = .tuple #[ov, .agg #[.int .i64 0, .int .i64 0]] ∧ Own 32 shr w w' ov ([(1, [6]), (2, [5])] : List M.Sh)) := by
  have h := split_ok w (m := 2) (kk := 2) hs hr
  rw [show M.spF [7] 2 2 [1] = (0, 0) from by decide +kernel, show M.spA [7] 2 2 [1] = [(1, [6]), (2, [5])] from by decide +kernel] at h
  exact h

theorem join_open (w : World) {lv : Value} (hl : Vec shr (hp w) lv ([(1, [6]), (2, [5])] : List M.Sh))  : Ok Try.prog 17 [lv, .int .i64 2] w (fun v w' => Ext w w' ∧ ∃ ov, v = .tuple #[ov, .agg #[.int .i64 0, .int .i64 0]] ∧ Own 5 .byte w w' ov [7]) := by
  have h := join_ok w (m := 2) hl
  rw [show M.jnF [(1, [6]), (2, [5])] 2 = (0, 0) from by decide +kernel, show M.jn [(1, [6]), (2, [5])] 2 = [7] from by decide +kernel] at h
  exact h

theorem join_open2 (w : World) {lv : Value} (hl : Vec shr (hp w) lv ([(1, [6])] : List M.Sh))  : Ok Try.prog 17 [lv, .int .i64 2] w (fun v w' => Ext w w' ∧ ∃ ov, v = .tuple #[ov, .agg #[.int .i64 18, .int .i64 (-1)]] ∧ Own 5 .byte w w' ov []) := by
  have h := join_ok w (m := 2) hl
  rw [show M.jnF [(1, [6])] 2 = (18, -1) from by decide +kernel, show M.jn [(1, [6])] 2 = [] from by decide +kernel] at h
  exact h

theorem sat_open (w : World) {lv : Value} (hl : Vec shr (hp w) lv ([(1, [6]), (2, [5])] : List M.Sh))  : Ok Try.prog 18 [lv, .int .i64 2, .int .i64 1] w (fun v w' => Ext w w' ∧ ∃ dv, v = .tuple #[.agg #[.int .i64 1, dv], .agg #[.int .i64 0, .int .i64 0]] ∧ Own 5 .byte w w' dv [6]) := by
  have h := sat_ok w (m := 2) (k := 1) hl
  rw [show M.axK [(1, [6]), (2, [5])] 2 1 = 1 from by decide +kernel, show M.axF [(1, [6]), (2, [5])] 2 1 = (0, 0) from by decide +kernel, show M.axD [(1, [6]), (2, [5])] 2 1 = [6] from by decide +kernel] at h
  exact h

theorem mend_open (w : World) {lv : Value} (hl : Vec shr (hp w) lv ([(1, [4]), (2, [4]), (3, [9])] : List M.Sh))  : Ok Try.prog 30 [lv, .int .i64 1] w (fun v w' => Ext w w' ∧ ∃ sv wv, v = .tuple #[sv, wv, .agg #[.int .i64 0, .int .i64 0]] ∧ Vec .byte (nw w w') sv [4] ∧ Vec (.int .i64) (nw w w') wv [2]) := by
  have h := mend_ok w (m := 1) hl
  rw [show M.mnF [(1, [4]), (2, [4]), (3, [9])] 1 = (0, 0) from by decide +kernel, show M.mnS [(1, [4]), (2, [4]), (3, [9])] 1 = [4] from by decide +kernel, show M.mnB [(1, [4]), (2, [4]), (3, [9])] 1 = [2] from by decide +kernel] at h
  exact h

theorem renew_open (w : World) {lv : Value} (hl : Vec shr (hp w) lv ([(1, [6]), (2, [5])] : List M.Sh)) {rv : Value} (hr : Vec .byte (hp w) rv [1])  : Ok Try.prog 33 [lv, .int .i64 2, rv] w (fun v w' => Ext w w' ∧ ∃ ov, v = .tuple #[ov, .agg #[.int .i64 0, .int .i64 0]] ∧ Own 32 shr w w' ov ([(1, [7]), (2, [7])] : List M.Sh)) := by
  have h := renew_ok w (m := 2) hl hr
  rw [show M.rnF [(1, [6]), (2, [5])] 2 [1] = (0, 0) from by decide +kernel, show M.rnA [(1, [6]), (2, [5])] 2 [1] = [(1, [7]), (2, [7])] from by decide +kernel] at h
  exact h

theorem explain_open (w : World) {lv : Value} (hl : Vec shr (hp w) lv ([(1, [6])] : List M.Sh)) {sv : Value} (hs : Vec .byte (hp w) sv [9])  : Ok Try.prog 35 [lv, .int .i64 2, sv] w (fun v w' => Ext w w' ∧ ∃ ov, v = .tuple #[ov, .agg #[.int .i64 0, .int .i64 0]] ∧ Own 5 .byte w w' ov [15]) := by
  have h := explain_ok w (m := 2) hl hs
  rw [show M.exF [(1, [6])] 2 [9] = (0, 0) from by decide +kernel, show M.exA [(1, [6])] 2 [9] = [15] from by decide +kernel] at h
  exact h

set_option maxRecDepth 10000 in
theorem opens_ok (w : World) :
    Ok Try.prog 14 [] w (fun v w' => Ext w w' ∧ v = .bool true) := by
  refine Ok_enter (n := 142) [] Try.func14 rfl rfl rfl rfl rfl ?_
  have hL := Lcl.start w
  refine W_seqr ?_
  refine S_pu 1 rfl ?_
  refine S_seqnil ?_
  refine W_seqr ?_
  refine S_lit (sz := 1) rfl (fun _ => bsl22_1 _ _) rfl (by decide) rfl hL ?_
  intro v1 w1 hx1 hL1 hle1 hs1 ho1
  replace hs1 := hs1.mono (nw_fz hL)
  have hv1 := vec_of_src (elems_bytes _ [7]) hs1
  refine S_lit (sz := 1) rfl (fun _ => bsl22_1 _ _) rfl (by decide) rfl hL1 ?_
  intro v2 w2 hx2 hL2 hle2 hs2 ho2
  replace hs1 := hs1.mono hle2
  replace hv1 := hv1.mono hle2
  replace hs2 := hs2.mono (nw_fz hL1)
  have hv2 := vec_of_src (elems_bytes _ [1]) hs2
  refine S_callL rfl rfl hL2 (split_open _ (hv1.mono (fz_le _ _)) (hv2.mono (fz_le _ _))) ?_
  rintro _ w3 ⟨v3, rfl, hR3⟩ hx3 _ _
  have hv3 := hR3.vec.mono (nw_fz hL2)
  have hL3 := hL2.call hx3
  have hle3 := fz_ext hL2 hx3
  replace hs1 := hs1.mono hle3
  replace hv1 := hv1.mono hle3
  replace hs2 := hs2.mono hle3
  replace hv2 := hv2.mono hle3
  refine S_pu 3 rfl ?_
  refine S_alloc zr25 rfl rfl hL3 ?_
  intro w4 b4 hL4 hle4 _
  replace hs1 := hs1.mono hle4
  replace hv1 := hv1.mono hle4
  replace hs2 := hs2.mono hle4
  replace hv2 := hv2.mono hle4
  replace hv3 := hv3.mono hle4
  refine S_pu 1 rfl ?_
  refine S_storeBN 0 rfl rfl rfl zr25 hL4 rfl rfl (onc rfl (onc rfl on0)) ?_
  intro w5 hL5 hle5
  replace hs1 := hs1.mono hle5
  replace hv1 := hv1.mono hle5
  replace hs2 := hs2.mono hle5
  replace hv2 := hv2.mono hle5
  replace hv3 := hv3.mono hle5
  refine S_seqnil ?_
  refine W_seqr ?_
  refine S_callL rfl rfl hL5 (two_ok _ ) ?_
  intro v6 w6 hR6 hx6 _ _
  have hv6 := hR6.vec.mono (nw_fz hL5)
  have hL6 := hL5.call hx6
  have hle6 := fz_ext hL5 hx6
  replace hs1 := hs1.mono hle6
  replace hv1 := hv1.mono hle6
  replace hs2 := hs2.mono hle6
  replace hv2 := hv2.mono hle6
  replace hv3 := hv3.mono hle6
  refine S_callL rfl rfl hL6 (join_open _ (hv6.mono (fz_le _ _))) ?_
  rintro _ w7 ⟨v7, rfl, hR7⟩ hx7 _ _
  have hv7 := hR7.vec.mono (nw_fz hL6)
  have hL7 := hL6.call hx7
  have hle7 := fz_ext hL6 hx7
  replace hs1 := hs1.mono hle7
  replace hv1 := hv1.mono hle7
  replace hs2 := hs2.mono hle7
  replace hv2 := hv2.mono hle7
  replace hv3 := hv3.mono hle7
  replace hv6 := hv6.mono hle7
  refine S_pu 3 rfl ?_
  refine S_alloc zr25 rfl rfl hL7 ?_
  intro w8 b8 hL8 hle8 _
  replace hs1 := hs1.mono hle8
  replace hv1 := hv1.mono hle8
  replace hs2 := hs2.mono hle8
  replace hv2 := hv2.mono hle8
  replace hv3 := hv3.mono hle8
  replace hv6 := hv6.mono hle8
  replace hv7 := hv7.mono hle8
  refine S_pu 1 rfl ?_
  refine S_storeBN 0 rfl rfl rfl zr25 hL8 rfl rfl (onc rfl (onc rfl on0)) ?_
  intro w9 hL9 hle9
  replace hs1 := hs1.mono hle9
  replace hv1 := hv1.mono hle9
  replace hs2 := hs2.mono hle9
  replace hv2 := hv2.mono hle9
  replace hv3 := hv3.mono hle9
  replace hv6 := hv6.mono hle9
  replace hv7 := hv7.mono hle9
  refine S_seqnil ?_
  refine W_seqr ?_
  refine S_callL rfl rfl hL9 (two_ok _ ) ?_
  intro v10 w10 hR10 hx10 _ _
  have hv10 := hR10.vec.mono (nw_fz hL9)
  have hL10 := hL9.call hx10
  have hle10 := fz_ext hL9 hx10
  replace hs1 := hs1.mono hle10
  replace hv1 := hv1.mono hle10
  replace hs2 := hs2.mono hle10
  replace hv2 := hv2.mono hle10
  replace hv3 := hv3.mono hle10
  replace hv6 := hv6.mono hle10
  replace hv7 := hv7.mono hle10
  refine S_callL rfl rfl hL10 (sat_open _ (hv10.mono (fz_le _ _))) ?_
  rintro _ w11 ⟨v11, rfl, hR11⟩ hx11 _ _
  have hv11 := hR11.vec.mono (nw_fz hL10)
  have hL11 := hL10.call hx11
  have hle11 := fz_ext hL10 hx11
  replace hs1 := hs1.mono hle11
  replace hv1 := hv1.mono hle11
  replace hs2 := hs2.mono hle11
  replace hv2 := hv2.mono hle11
  replace hv3 := hv3.mono hle11
  replace hv6 := hv6.mono hle11
  replace hv7 := hv7.mono hle11
  replace hv10 := hv10.mono hle11
  refine S_pu 3 rfl ?_
  refine S_alloc zr32 rfl rfl hL11 ?_
  intro w12 b12 hL12 hle12 _
  replace hs1 := hs1.mono hle12
  replace hv1 := hv1.mono hle12
  replace hs2 := hs2.mono hle12
  replace hv2 := hv2.mono hle12
  replace hv3 := hv3.mono hle12
  replace hv6 := hv6.mono hle12
  replace hv7 := hv7.mono hle12
  replace hv10 := hv10.mono hle12
  replace hv11 := hv11.mono hle12
  refine S_alloc zr25 rfl rfl hL12 ?_
  intro w13 b13 hL13 hle13 _
  replace hs1 := hs1.mono hle13
  replace hv1 := hv1.mono hle13
  replace hs2 := hs2.mono hle13
  replace hv2 := hv2.mono hle13
  replace hv3 := hv3.mono hle13
  replace hv6 := hv6.mono hle13
  replace hv7 := hv7.mono hle13
  replace hv10 := hv10.mono hle13
  replace hv11 := hv11.mono hle13
  refine S_storeBN 1 rfl rfl rfl zr32 hL13 rfl rfl (onc rfl (onc hv11.one on0)) ?_
  intro w14 hL14 hle14
  replace hs1 := hs1.mono hle14
  replace hv1 := hv1.mono hle14
  replace hs2 := hs2.mono hle14
  replace hv2 := hv2.mono hle14
  replace hv3 := hv3.mono hle14
  replace hv6 := hv6.mono hle14
  replace hv7 := hv7.mono hle14
  replace hv10 := hv10.mono hle14
  replace hv11 := hv11.mono hle14
  refine S_storeBN 0 rfl rfl rfl zr25 hL14 rfl rfl (onc rfl (onc rfl on0)) ?_
  intro w15 hL15 hle15
  replace hs1 := hs1.mono hle15
  replace hv1 := hv1.mono hle15
  replace hs2 := hs2.mono hle15
  replace hv2 := hv2.mono hle15
  replace hv3 := hv3.mono hle15
  replace hv6 := hv6.mono hle15
  replace hv7 := hv7.mono hle15
  replace hv10 := hv10.mono hle15
  replace hv11 := hv11.mono hle15
  refine S_seqnil ?_
  refine W_seqr ?_
  refine S_lit (sz := 1) rfl (fun _ => bsl22_1 _ _) rfl (by decide) rfl hL15 ?_
  intro v16 w16 hx16 hL16 hle16 hs16 ho16
  replace hs1 := hs1.mono hle16
  replace hv1 := hv1.mono hle16
  replace hs2 := hs2.mono hle16
  replace hv2 := hv2.mono hle16
  replace hv3 := hv3.mono hle16
  replace hv6 := hv6.mono hle16
  replace hv7 := hv7.mono hle16
  replace hv10 := hv10.mono hle16
  replace hv11 := hv11.mono hle16
  replace hs16 := hs16.mono (nw_fz hL15)
  have hv16 := vec_of_src (elems_bytes _ [4]) hs16
  refine S_v (r_build rfl (fun _ => bld32_0_1 _ _ hv16.one _)) rfl ?_
  refine S_lit (sz := 1) rfl (fun _ => bsl22_1 _ _) rfl (by decide) rfl hL16 ?_
  intro v17 w17 hx17 hL17 hle17 hs17 ho17
  replace hs1 := hs1.mono hle17
  replace hv1 := hv1.mono hle17
  replace hs2 := hs2.mono hle17
  replace hv2 := hv2.mono hle17
  replace hv3 := hv3.mono hle17
  replace hv6 := hv6.mono hle17
  replace hv7 := hv7.mono hle17
  replace hv10 := hv10.mono hle17
  replace hv11 := hv11.mono hle17
  replace hs16 := hs16.mono hle17
  replace hv16 := hv16.mono hle17
  replace hs17 := hs17.mono (nw_fz hL16)
  have hv17 := vec_of_src (elems_bytes _ [4]) hs17
  refine S_v (r_build rfl (fun _ => bld32_0_1 _ _ hv17.one _)) rfl ?_
  refine S_lit (sz := 1) rfl (fun _ => bsl22_1 _ _) rfl (by decide) rfl hL17 ?_
  intro v18 w18 hx18 hL18 hle18 hs18 ho18
  replace hs1 := hs1.mono hle18
  replace hv1 := hv1.mono hle18
  replace hs2 := hs2.mono hle18
  replace hv2 := hv2.mono hle18
  replace hv3 := hv3.mono hle18
  replace hv6 := hv6.mono hle18
  replace hv7 := hv7.mono hle18
  replace hv10 := hv10.mono hle18
  replace hv11 := hv11.mono hle18
  replace hs16 := hs16.mono hle18
  replace hv16 := hv16.mono hle18
  replace hs17 := hs17.mono hle18
  replace hv17 := hv17.mono hle18
  replace hs18 := hs18.mono (nw_fz hL17)
  have hv18 := vec_of_src (elems_bytes _ [9]) hs18
  refine S_v (r_build rfl (fun _ => bld32_0_1 _ _ hv18.one _)) rfl ?_
  refine S_lit (sz := 2) rfl (fun _ => bsl23_3 _ _ _ _ _ _ _) rfl (by decide) rfl hL18 ?_
  intro v19 w19 hx19 hL19 hle19 hs19 ho19
  replace hs1 := hs1.mono hle19
  replace hv1 := hv1.mono hle19
  replace hs2 := hs2.mono hle19
  replace hv2 := hv2.mono hle19
  replace hv3 := hv3.mono hle19
  replace hv6 := hv6.mono hle19
  replace hv7 := hv7.mono hle19
  replace hv10 := hv10.mono hle19
  replace hv11 := hv11.mono hle19
  replace hs16 := hs16.mono hle19
  replace hv16 := hv16.mono hle19
  replace hs17 := hs17.mono hle19
  replace hv17 := hv17.mono hle19
  replace hs18 := hs18.mono hle19
  replace hv18 := hv18.mono hle19
  replace hs19 := hs19.mono (nw_fz hL18)
  have hv19 := vec_of_src (el3 hv16 hv17 hv18) hs19
  refine S_callL rfl rfl hL19 (mend_open _ (hv19.mono (fz_le _ _))) ?_
  rintro _ w20 ⟨sv20, wv20, rfl, hs20, hb20⟩ hx20 hL20 hle20
  replace hs20 := hs20.mono (nw_fz hL19)
  replace hb20 := hb20.mono (nw_fz hL19)
  replace hs1 := hs1.mono hle20
  replace hv1 := hv1.mono hle20
  replace hs2 := hs2.mono hle20
  replace hv2 := hv2.mono hle20
  replace hv3 := hv3.mono hle20
  replace hv6 := hv6.mono hle20
  replace hv7 := hv7.mono hle20
  replace hv10 := hv10.mono hle20
  replace hv11 := hv11.mono hle20
  replace hs16 := hs16.mono hle20
  replace hv16 := hv16.mono hle20
  replace hs17 := hs17.mono hle20
  replace hv17 := hv17.mono hle20
  replace hs18 := hs18.mono hle20
  replace hv18 := hv18.mono hle20
  replace hs19 := hs19.mono hle20
  replace hv19 := hv19.mono hle20
  refine S_pu 4 rfl ?_
  refine S_alloc zr25 rfl rfl hL20 ?_
  intro w21 b21 hL21 hle21 _
  replace hs1 := hs1.mono hle21
  replace hv1 := hv1.mono hle21
  replace hs2 := hs2.mono hle21
  replace hv2 := hv2.mono hle21
  replace hv3 := hv3.mono hle21
  replace hv6 := hv6.mono hle21
  replace hv7 := hv7.mono hle21
  replace hv10 := hv10.mono hle21
  replace hv11 := hv11.mono hle21
  replace hs16 := hs16.mono hle21
  replace hv16 := hv16.mono hle21
  replace hs17 := hs17.mono hle21
  replace hv17 := hv17.mono hle21
  replace hs18 := hs18.mono hle21
  replace hv18 := hv18.mono hle21
  replace hs19 := hs19.mono hle21
  replace hv19 := hv19.mono hle21
  replace hs20 := hs20.mono hle21
  replace hb20 := hb20.mono hle21
  refine S_pu 2 rfl ?_
  refine S_storeBN 0 rfl rfl rfl zr25 hL21 rfl rfl (onc rfl (onc rfl on0)) ?_
  intro w22 hL22 hle22
  replace hs1 := hs1.mono hle22
  replace hv1 := hv1.mono hle22
  replace hs2 := hs2.mono hle22
  replace hv2 := hv2.mono hle22
  replace hv3 := hv3.mono hle22
  replace hv6 := hv6.mono hle22
  replace hv7 := hv7.mono hle22
  replace hv10 := hv10.mono hle22
  replace hv11 := hv11.mono hle22
  replace hs16 := hs16.mono hle22
  replace hv16 := hv16.mono hle22
  replace hs17 := hs17.mono hle22
  replace hv17 := hv17.mono hle22
  replace hs18 := hs18.mono hle22
  replace hv18 := hv18.mono hle22
  replace hs19 := hs19.mono hle22
  replace hv19 := hv19.mono hle22
  replace hs20 := hs20.mono hle22
  replace hb20 := hb20.mono hle22
  refine S_seqnil ?_
  refine W_seqr ?_
  refine S_callL rfl rfl hL22 (two_ok _ ) ?_
  intro v23 w23 hR23 hx23 _ _
  have hv23 := hR23.vec.mono (nw_fz hL22)
  have hL23 := hL22.call hx23
  have hle23 := fz_ext hL22 hx23
  replace hs1 := hs1.mono hle23
  replace hv1 := hv1.mono hle23
  replace hs2 := hs2.mono hle23
  replace hv2 := hv2.mono hle23
  replace hv3 := hv3.mono hle23
  replace hv6 := hv6.mono hle23
  replace hv7 := hv7.mono hle23
  replace hv10 := hv10.mono hle23
  replace hv11 := hv11.mono hle23
  replace hs16 := hs16.mono hle23
  replace hv16 := hv16.mono hle23
  replace hs17 := hs17.mono hle23
  replace hv17 := hv17.mono hle23
  replace hs18 := hs18.mono hle23
  replace hv18 := hv18.mono hle23
  replace hs19 := hs19.mono hle23
  replace hv19 := hv19.mono hle23
  replace hs20 := hs20.mono hle23
  replace hb20 := hb20.mono hle23
  refine S_lit (sz := 1) rfl (fun _ => bsl22_1 _ _) rfl (by decide) rfl hL23 ?_
  intro v24 w24 hx24 hL24 hle24 hs24 ho24
  replace hs1 := hs1.mono hle24
  replace hv1 := hv1.mono hle24
  replace hs2 := hs2.mono hle24
  replace hv2 := hv2.mono hle24
  replace hv3 := hv3.mono hle24
  replace hv6 := hv6.mono hle24
  replace hv7 := hv7.mono hle24
  replace hv10 := hv10.mono hle24
  replace hv11 := hv11.mono hle24
  replace hs16 := hs16.mono hle24
  replace hv16 := hv16.mono hle24
  replace hs17 := hs17.mono hle24
  replace hv17 := hv17.mono hle24
  replace hs18 := hs18.mono hle24
  replace hv18 := hv18.mono hle24
  replace hs19 := hs19.mono hle24
  replace hv19 := hv19.mono hle24
  replace hs20 := hs20.mono hle24
  replace hb20 := hb20.mono hle24
  replace hv23 := hv23.mono hle24
  replace hs24 := hs24.mono (nw_fz hL23)
  have hv24 := vec_of_src (elems_bytes _ [1]) hs24
  refine S_callL rfl rfl hL24 (renew_open _ (hv23.mono (fz_le _ _)) (hv24.mono (fz_le _ _))) ?_
  rintro _ w25 ⟨v25, rfl, hR25⟩ hx25 _ _
  have hv25 := hR25.vec.mono (nw_fz hL24)
  have hL25 := hL24.call hx25
  have hle25 := fz_ext hL24 hx25
  replace hs1 := hs1.mono hle25
  replace hv1 := hv1.mono hle25
  replace hs2 := hs2.mono hle25
  replace hv2 := hv2.mono hle25
  replace hv3 := hv3.mono hle25
  replace hv6 := hv6.mono hle25
  replace hv7 := hv7.mono hle25
  replace hv10 := hv10.mono hle25
  replace hv11 := hv11.mono hle25
  replace hs16 := hs16.mono hle25
  replace hv16 := hv16.mono hle25
  replace hs17 := hs17.mono hle25
  replace hv17 := hv17.mono hle25
  replace hs18 := hs18.mono hle25
  replace hv18 := hv18.mono hle25
  replace hs19 := hs19.mono hle25
  replace hv19 := hv19.mono hle25
  replace hs20 := hs20.mono hle25
  replace hb20 := hb20.mono hle25
  replace hv23 := hv23.mono hle25
  replace hs24 := hs24.mono hle25
  replace hv24 := hv24.mono hle25
  refine S_pu 3 rfl ?_
  refine S_alloc zr25 rfl rfl hL25 ?_
  intro w26 b26 hL26 hle26 _
  replace hs1 := hs1.mono hle26
  replace hv1 := hv1.mono hle26
  replace hs2 := hs2.mono hle26
  replace hv2 := hv2.mono hle26
  replace hv3 := hv3.mono hle26
  replace hv6 := hv6.mono hle26
  replace hv7 := hv7.mono hle26
  replace hv10 := hv10.mono hle26
  replace hv11 := hv11.mono hle26
  replace hs16 := hs16.mono hle26
  replace hv16 := hv16.mono hle26
  replace hs17 := hs17.mono hle26
  replace hv17 := hv17.mono hle26
  replace hs18 := hs18.mono hle26
  replace hv18 := hv18.mono hle26
  replace hs19 := hs19.mono hle26
  replace hv19 := hv19.mono hle26
  replace hs20 := hs20.mono hle26
  replace hb20 := hb20.mono hle26
  replace hv23 := hv23.mono hle26
  replace hs24 := hs24.mono hle26
  replace hv24 := hv24.mono hle26
  replace hv25 := hv25.mono hle26
  refine S_pu 1 rfl ?_
  refine S_storeBN 0 rfl rfl rfl zr25 hL26 rfl rfl (onc rfl (onc rfl on0)) ?_
  intro w27 hL27 hle27
  replace hs1 := hs1.mono hle27
  replace hv1 := hv1.mono hle27
  replace hs2 := hs2.mono hle27
  replace hv2 := hv2.mono hle27
  replace hv3 := hv3.mono hle27
  replace hv6 := hv6.mono hle27
  replace hv7 := hv7.mono hle27
  replace hv10 := hv10.mono hle27
  replace hv11 := hv11.mono hle27
  replace hs16 := hs16.mono hle27
  replace hv16 := hv16.mono hle27
  replace hs17 := hs17.mono hle27
  replace hv17 := hv17.mono hle27
  replace hs18 := hs18.mono hle27
  replace hv18 := hv18.mono hle27
  replace hs19 := hs19.mono hle27
  replace hv19 := hv19.mono hle27
  replace hs20 := hs20.mono hle27
  replace hb20 := hb20.mono hle27
  replace hv23 := hv23.mono hle27
  replace hs24 := hs24.mono hle27
  replace hv24 := hv24.mono hle27
  replace hv25 := hv25.mono hle27
  refine S_seqnil ?_
  refine W_seqr ?_
  refine S_callL rfl rfl hL27 (two_ok _ ) ?_
  intro v28 w28 hR28 hx28 _ _
  have hv28 := hR28.vec.mono (nw_fz hL27)
  have hL28 := hL27.call hx28
  have hle28 := fz_ext hL27 hx28
  replace hs1 := hs1.mono hle28
  replace hv1 := hv1.mono hle28
  replace hs2 := hs2.mono hle28
  replace hv2 := hv2.mono hle28
  replace hv3 := hv3.mono hle28
  replace hv6 := hv6.mono hle28
  replace hv7 := hv7.mono hle28
  replace hv10 := hv10.mono hle28
  replace hv11 := hv11.mono hle28
  replace hs16 := hs16.mono hle28
  replace hv16 := hv16.mono hle28
  replace hs17 := hs17.mono hle28
  replace hv17 := hv17.mono hle28
  replace hs18 := hs18.mono hle28
  replace hv18 := hv18.mono hle28
  replace hs19 := hs19.mono hle28
  replace hv19 := hv19.mono hle28
  replace hs20 := hs20.mono hle28
  replace hb20 := hb20.mono hle28
  replace hv23 := hv23.mono hle28
  replace hs24 := hs24.mono hle28
  replace hv24 := hv24.mono hle28
  replace hv25 := hv25.mono hle28
  refine S_slice rfl Try.underlying23 zr32 hv28 (0) (1) rfl ⟨_, rfl⟩ (by decide) rfl ?_
  intro v29 hv29
  change Vec shr _ _ ([(1, [6])] : List M.Sh) at hv29
  refine S_lit (sz := 1) rfl (fun _ => bsl22_1 _ _) rfl (by decide) rfl hL28 ?_
  intro v30 w30 hx30 hL30 hle30 hs30 ho30
  replace hs1 := hs1.mono hle30
  replace hv1 := hv1.mono hle30
  replace hs2 := hs2.mono hle30
  replace hv2 := hv2.mono hle30
  replace hv3 := hv3.mono hle30
  replace hv6 := hv6.mono hle30
  replace hv7 := hv7.mono hle30
  replace hv10 := hv10.mono hle30
  replace hv11 := hv11.mono hle30
  replace hs16 := hs16.mono hle30
  replace hv16 := hv16.mono hle30
  replace hs17 := hs17.mono hle30
  replace hv17 := hv17.mono hle30
  replace hs18 := hs18.mono hle30
  replace hv18 := hv18.mono hle30
  replace hs19 := hs19.mono hle30
  replace hv19 := hv19.mono hle30
  replace hs20 := hs20.mono hle30
  replace hb20 := hb20.mono hle30
  replace hv23 := hv23.mono hle30
  replace hs24 := hs24.mono hle30
  replace hv24 := hv24.mono hle30
  replace hv25 := hv25.mono hle30
  replace hv28 := hv28.mono hle30
  replace hv29 := hv29.mono hle30
  replace hs30 := hs30.mono (nw_fz hL28)
  have hv30 := vec_of_src (elems_bytes _ [9]) hs30
  refine S_callL rfl rfl hL30 (explain_open _ (hv29.mono (fz_le _ _)) (hv30.mono (fz_le _ _))) ?_
  rintro _ w31 ⟨v31, rfl, hR31⟩ hx31 _ _
  have hv31 := hR31.vec.mono (nw_fz hL30)
  have hL31 := hL30.call hx31
  have hle31 := fz_ext hL30 hx31
  replace hs1 := hs1.mono hle31
  replace hv1 := hv1.mono hle31
  replace hs2 := hs2.mono hle31
  replace hv2 := hv2.mono hle31
  replace hv3 := hv3.mono hle31
  replace hv6 := hv6.mono hle31
  replace hv7 := hv7.mono hle31
  replace hv10 := hv10.mono hle31
  replace hv11 := hv11.mono hle31
  replace hs16 := hs16.mono hle31
  replace hv16 := hv16.mono hle31
  replace hs17 := hs17.mono hle31
  replace hv17 := hv17.mono hle31
  replace hs18 := hs18.mono hle31
  replace hv18 := hv18.mono hle31
  replace hs19 := hs19.mono hle31
  replace hv19 := hv19.mono hle31
  replace hs20 := hs20.mono hle31
  replace hb20 := hb20.mono hle31
  replace hv23 := hv23.mono hle31
  replace hs24 := hs24.mono hle31
  replace hv24 := hv24.mono hle31
  replace hv25 := hv25.mono hle31
  replace hv28 := hv28.mono hle31
  replace hv29 := hv29.mono hle31
  replace hs30 := hs30.mono hle31
  replace hv30 := hv30.mono hle31
  refine S_pu 3 rfl ?_
  refine S_alloc zr25 rfl rfl hL31 ?_
  intro w32 b32 hL32 hle32 _
  replace hs1 := hs1.mono hle32
  replace hv1 := hv1.mono hle32
  replace hs2 := hs2.mono hle32
  replace hv2 := hv2.mono hle32
  replace hv3 := hv3.mono hle32
  replace hv6 := hv6.mono hle32
  replace hv7 := hv7.mono hle32
  replace hv10 := hv10.mono hle32
  replace hv11 := hv11.mono hle32
  replace hs16 := hs16.mono hle32
  replace hv16 := hv16.mono hle32
  replace hs17 := hs17.mono hle32
  replace hv17 := hv17.mono hle32
  replace hs18 := hs18.mono hle32
  replace hv18 := hv18.mono hle32
  replace hs19 := hs19.mono hle32
  replace hv19 := hv19.mono hle32
  replace hs20 := hs20.mono hle32
  replace hb20 := hb20.mono hle32
  replace hv23 := hv23.mono hle32
  replace hs24 := hs24.mono hle32
  replace hv24 := hv24.mono hle32
  replace hv25 := hv25.mono hle32
  replace hv28 := hv28.mono hle32
  replace hv29 := hv29.mono hle32
  replace hs30 := hs30.mono hle32
  replace hv30 := hv30.mono hle32
  replace hv31 := hv31.mono hle32
  refine S_pu 1 rfl ?_
  refine S_storeBN 0 rfl rfl rfl zr25 hL32 rfl rfl (onc rfl (onc rfl on0)) ?_
  intro w33 hL33 hle33
  replace hs1 := hs1.mono hle33
  replace hv1 := hv1.mono hle33
  replace hs2 := hs2.mono hle33
  replace hv2 := hv2.mono hle33
  replace hv3 := hv3.mono hle33
  replace hv6 := hv6.mono hle33
  replace hv7 := hv7.mono hle33
  replace hv10 := hv10.mono hle33
  replace hv11 := hv11.mono hle33
  replace hs16 := hs16.mono hle33
  replace hv16 := hv16.mono hle33
  replace hs17 := hs17.mono hle33
  replace hv17 := hv17.mono hle33
  replace hs18 := hs18.mono hle33
  replace hv18 := hv18.mono hle33
  replace hs19 := hs19.mono hle33
  replace hv19 := hv19.mono hle33
  replace hs20 := hs20.mono hle33
  replace hb20 := hb20.mono hle33
  replace hv23 := hv23.mono hle33
  replace hs24 := hs24.mono hle33
  replace hv24 := hv24.mono hle33
  replace hv25 := hv25.mono hle33
  replace hv28 := hv28.mono hle33
  replace hv29 := hv29.mono hle33
  replace hs30 := hs30.mono hle33
  replace hv30 := hv30.mono hle33
  replace hv31 := hv31.mono hle33
  refine S_seqnil ?_
  refine W_seqr ?_
  refine S_callL rfl rfl hL33 (two_ok _ ) ?_
  intro v34 w34 hR34 hx34 _ _
  have hv34 := hR34.vec.mono (nw_fz hL33)
  have hL34 := hL33.call hx34
  have hle34 := fz_ext hL33 hx34
  replace hs1 := hs1.mono hle34
  replace hv1 := hv1.mono hle34
  replace hs2 := hs2.mono hle34
  replace hv2 := hv2.mono hle34
  replace hv3 := hv3.mono hle34
  replace hv6 := hv6.mono hle34
  replace hv7 := hv7.mono hle34
  replace hv10 := hv10.mono hle34
  replace hv11 := hv11.mono hle34
  replace hs16 := hs16.mono hle34
  replace hv16 := hv16.mono hle34
  replace hs17 := hs17.mono hle34
  replace hv17 := hv17.mono hle34
  replace hs18 := hs18.mono hle34
  replace hv18 := hv18.mono hle34
  replace hs19 := hs19.mono hle34
  replace hv19 := hv19.mono hle34
  replace hs20 := hs20.mono hle34
  replace hb20 := hb20.mono hle34
  replace hv23 := hv23.mono hle34
  replace hs24 := hs24.mono hle34
  replace hv24 := hv24.mono hle34
  replace hv25 := hv25.mono hle34
  replace hv28 := hv28.mono hle34
  replace hv29 := hv29.mono hle34
  replace hs30 := hs30.mono hle34
  replace hv30 := hv30.mono hle34
  replace hv31 := hv31.mono hle34
  refine S_slice rfl Try.underlying23 zr32 hv34 (0) (1) rfl ⟨_, rfl⟩ (by decide) rfl ?_
  intro v35 hv35
  change Vec shr _ _ ([(1, [6])] : List M.Sh) at hv35
  refine S_callL rfl rfl hL34 (join_open2 _ (hv35.mono (fz_le _ _))) ?_
  rintro _ w36 ⟨v36, rfl, hR36⟩ hx36 _ _
  have hv36 := hR36.vec.mono (nw_fz hL34)
  have hL36 := hL34.call hx36
  have hle36 := fz_ext hL34 hx36
  replace hs1 := hs1.mono hle36
  replace hv1 := hv1.mono hle36
  replace hs2 := hs2.mono hle36
  replace hv2 := hv2.mono hle36
  replace hv3 := hv3.mono hle36
  replace hv6 := hv6.mono hle36
  replace hv7 := hv7.mono hle36
  replace hv10 := hv10.mono hle36
  replace hv11 := hv11.mono hle36
  replace hs16 := hs16.mono hle36
  replace hv16 := hv16.mono hle36
  replace hs17 := hs17.mono hle36
  replace hv17 := hv17.mono hle36
  replace hs18 := hs18.mono hle36
  replace hv18 := hv18.mono hle36
  replace hs19 := hs19.mono hle36
  replace hv19 := hv19.mono hle36
  replace hs20 := hs20.mono hle36
  replace hb20 := hb20.mono hle36
  replace hv23 := hv23.mono hle36
  replace hs24 := hs24.mono hle36
  replace hv24 := hv24.mono hle36
  replace hv25 := hv25.mono hle36
  replace hv28 := hv28.mono hle36
  replace hv29 := hv29.mono hle36
  replace hs30 := hs30.mono hle36
  replace hv30 := hv30.mono hle36
  replace hv31 := hv31.mono hle36
  replace hv34 := hv34.mono hle36
  replace hv35 := hv35.mono hle36
  refine S_pu 3 rfl ?_
  refine S_alloc zr25 rfl rfl hL36 ?_
  intro w37 b37 hL37 hle37 _
  replace hs1 := hs1.mono hle37
  replace hv1 := hv1.mono hle37
  replace hs2 := hs2.mono hle37
  replace hv2 := hv2.mono hle37
  replace hv3 := hv3.mono hle37
  replace hv6 := hv6.mono hle37
  replace hv7 := hv7.mono hle37
  replace hv10 := hv10.mono hle37
  replace hv11 := hv11.mono hle37
  replace hs16 := hs16.mono hle37
  replace hv16 := hv16.mono hle37
  replace hs17 := hs17.mono hle37
  replace hv17 := hv17.mono hle37
  replace hs18 := hs18.mono hle37
  replace hv18 := hv18.mono hle37
  replace hs19 := hs19.mono hle37
  replace hv19 := hv19.mono hle37
  replace hs20 := hs20.mono hle37
  replace hb20 := hb20.mono hle37
  replace hv23 := hv23.mono hle37
  replace hs24 := hs24.mono hle37
  replace hv24 := hv24.mono hle37
  replace hv25 := hv25.mono hle37
  replace hv28 := hv28.mono hle37
  replace hv29 := hv29.mono hle37
  replace hs30 := hs30.mono hle37
  replace hv30 := hv30.mono hle37
  replace hv31 := hv31.mono hle37
  replace hv34 := hv34.mono hle37
  replace hv35 := hv35.mono hle37
  replace hv36 := hv36.mono hle37
  refine S_pu 1 rfl ?_
  refine S_storeBN 0 rfl rfl rfl zr25 hL37 rfl rfl (onc rfl (onc rfl on0)) ?_
  intro w38 hL38 hle38
  replace hs1 := hs1.mono hle38
  replace hv1 := hv1.mono hle38
  replace hs2 := hs2.mono hle38
  replace hv2 := hv2.mono hle38
  replace hv3 := hv3.mono hle38
  replace hv6 := hv6.mono hle38
  replace hv7 := hv7.mono hle38
  replace hv10 := hv10.mono hle38
  replace hv11 := hv11.mono hle38
  replace hs16 := hs16.mono hle38
  replace hv16 := hv16.mono hle38
  replace hs17 := hs17.mono hle38
  replace hv17 := hv17.mono hle38
  replace hs18 := hs18.mono hle38
  replace hv18 := hv18.mono hle38
  replace hs19 := hs19.mono hle38
  replace hv19 := hv19.mono hle38
  replace hs20 := hs20.mono hle38
  replace hb20 := hb20.mono hle38
  replace hv23 := hv23.mono hle38
  replace hs24 := hs24.mono hle38
  replace hv24 := hv24.mono hle38
  replace hv25 := hv25.mono hle38
  replace hv28 := hv28.mono hle38
  replace hv29 := hv29.mono hle38
  replace hs30 := hs30.mono hle38
  replace hv30 := hv30.mono hle38
  replace hv31 := hv31.mono hle38
  replace hv34 := hv34.mono hle38
  replace hv35 := hv35.mono hle38
  replace hv36 := hv36.mono hle38
  refine S_seqnil ?_
  refine W_seq ?_
  refine W_seqr ?_
  refine S_v (r_field rfl Try.underlying25 rfl zr3 (by decide)) rfl ?_
  refine S_v (r_loadB1 7 rfl Try.underlying3 rfl hL38 rfl rfl) rfl ?_
  refine S_pu 2 rfl ?_
  refine S_split (s := 66) rfl (fun hg39 => ?_) (fun hg39 => ?_)
  · exact absurd hg39 (by decide)
  · refine S_guarded rfl rfl hg39 ?_
    refine S_v (r_field rfl Try.underlying25 rfl zr3 (by decide)) rfl ?_
    refine S_guarded rfl rfl hg39 ?_
    refine S_v (r_loadB1 6 rfl Try.underlying3 rfl hL38 rfl rfl) rfl ?_
    refine S_guarded rfl rfl hg39 ?_
    refine S_v (RunsAt_pu rfl) rfl ?_
    refine S_v (r_pickF rfl hg39 rfl) rfl ?_
    refine S_pu 1 rfl ?_
    refine S_split (s := 71) rfl (fun hg40 => ?_) (fun hg40 => ?_)
    · exact absurd hg40 (by decide)
    · refine S_guarded rfl rfl hg40 ?_
      refine S_v (r_field rfl Try.underlying25 rfl zr3 (by decide)) rfl ?_
      refine S_guarded rfl rfl hg40 ?_
      refine S_v (r_loadB1 4 rfl Try.underlying3 rfl hL38 rfl rfl) rfl ?_
      refine S_guarded rfl rfl hg40 ?_
      refine S_v (RunsAt_pu rfl) rfl ?_
      refine S_v (r_pickF rfl hg40 rfl) rfl ?_
      refine S_pu 1 rfl ?_
      refine S_split (s := 76) rfl (fun hg41 => ?_) (fun hg41 => ?_)
      · exact absurd hg41 (by decide)
      · refine S_guarded rfl rfl hg41 ?_
        refine S_v (r_field rfl Try.underlying25 rfl zr3 (by decide)) rfl ?_
        refine S_guarded rfl rfl hg41 ?_
        refine S_v (r_loadB1 3 rfl Try.underlying3 rfl hL38 rfl rfl) rfl ?_
        refine S_guarded rfl rfl hg41 ?_
        refine S_v (RunsAt_pu rfl) rfl ?_
        refine S_v (r_pickF rfl hg41 rfl) rfl ?_
        refine S_pu 1 rfl ?_
        refine S_split (s := 81) rfl (fun hg42 => ?_) (fun hg42 => ?_)
        · exact absurd hg42 (by decide)
        · refine S_guarded rfl rfl hg42 ?_
          refine S_v (r_field rfl Try.underlying25 rfl zr3 (by decide)) rfl ?_
          refine S_guarded rfl rfl hg42 ?_
          refine S_v (r_loadB1 2 rfl Try.underlying3 rfl hL38 rfl rfl) rfl ?_
          refine S_guarded rfl rfl hg42 ?_
          refine S_v (RunsAt_pu rfl) rfl ?_
          refine S_v (r_pickF rfl hg42 rfl) rfl ?_
          refine S_pu 1 rfl ?_
          refine S_split (s := 86) rfl (fun hg43 => ?_) (fun hg43 => ?_)
          · exact absurd hg43 (by decide)
          · refine S_guarded rfl rfl hg43 ?_
            refine S_v (r_field rfl Try.underlying25 rfl zr3 (by decide)) rfl ?_
            refine S_guarded rfl rfl hg43 ?_
            refine S_v (r_loadB1 1 rfl Try.underlying3 rfl hL38 rfl rfl) rfl ?_
            refine S_guarded rfl rfl hg43 ?_
            refine S_v (RunsAt_pu rfl) rfl ?_
            refine S_v (r_pickF rfl hg43 rfl) rfl ?_
            refine S_seqnil ?_
            refine W_ifn rfl (fun hc44 => ?_) (fun hc44 => ?_)
            · exact absurd rfl hc44
            · refine W_skip ?_
              refine At_seq ?_
              refine W_seq ?_
              refine W_seqr ?_
              refine S_pu 1 rfl ?_
              refine S_callL rfl rfl hL38 (two_ok _ ) ?_
              intro v45 w45 hR45 hx45 _ _
              have hv45 := hR45.vec.mono (nw_fz hL38)
              have hL45 := hL38.call hx45
              have hle45 := fz_ext hL38 hx45
              replace hs1 := hs1.mono hle45
              replace hv1 := hv1.mono hle45
              replace hs2 := hs2.mono hle45
              replace hv2 := hv2.mono hle45
              replace hv3 := hv3.mono hle45
              replace hv6 := hv6.mono hle45
              replace hv7 := hv7.mono hle45
              replace hv10 := hv10.mono hle45
              replace hv11 := hv11.mono hle45
              replace hs16 := hs16.mono hle45
              replace hv16 := hv16.mono hle45
              replace hs17 := hs17.mono hle45
              replace hv17 := hv17.mono hle45
              replace hs18 := hs18.mono hle45
              replace hv18 := hv18.mono hle45
              replace hs19 := hs19.mono hle45
              replace hv19 := hv19.mono hle45
              replace hs20 := hs20.mono hle45
              replace hb20 := hb20.mono hle45
              replace hv23 := hv23.mono hle45
              replace hs24 := hs24.mono hle45
              replace hv24 := hv24.mono hle45
              replace hv25 := hv25.mono hle45
              replace hv28 := hv28.mono hle45
              replace hv29 := hv29.mono hle45
              replace hs30 := hs30.mono hle45
              replace hv30 := hv30.mono hle45
              replace hv31 := hv31.mono hle45
              replace hv34 := hv34.mono hle45
              replace hv35 := hv35.mono hle45
              replace hv36 := hv36.mono hle45
              refine S_callL rfl rfl hL45 (samesh_ok _ (hv3.mono (fz_le _ _)) (hv45.mono (fz_le _ _))) ?_
              rintro _ w46 rfl hx46 hL46 hle46
              replace hs1 := hs1.mono hle46
              replace hv1 := hv1.mono hle46
              replace hs2 := hs2.mono hle46
              replace hv2 := hv2.mono hle46
              replace hv3 := hv3.mono hle46
              replace hv6 := hv6.mono hle46
              replace hv7 := hv7.mono hle46
              replace hv10 := hv10.mono hle46
              replace hv11 := hv11.mono hle46
              replace hs16 := hs16.mono hle46
              replace hv16 := hv16.mono hle46
              replace hs17 := hs17.mono hle46
              replace hv17 := hv17.mono hle46
              replace hs18 := hs18.mono hle46
              replace hv18 := hv18.mono hle46
              replace hs19 := hs19.mono hle46
              replace hv19 := hv19.mono hle46
              replace hs20 := hs20.mono hle46
              replace hb20 := hb20.mono hle46
              replace hv23 := hv23.mono hle46
              replace hs24 := hs24.mono hle46
              replace hv24 := hv24.mono hle46
              replace hv25 := hv25.mono hle46
              replace hv28 := hv28.mono hle46
              replace hv29 := hv29.mono hle46
              replace hs30 := hs30.mono hle46
              replace hv30 := hv30.mono hle46
              replace hv31 := hv31.mono hle46
              replace hv34 := hv34.mono hle46
              replace hv35 := hv35.mono hle46
              replace hv36 := hv36.mono hle46
              replace hv45 := hv45.mono hle46
              refine S_pu 2 rfl ?_
              refine S_split (s := 95) rfl (fun hg47 => ?_) (fun hg47 => ?_)
              · exact absurd hg47 (by decide)
              · refine S_guarded rfl rfl hg47 ?_
                refine S_v (RunsAt_pu rfl) rfl ?_
                refine S_guarded rfl rfl hg47 ?_
                refine S_lit (sz := 1) rfl (fun _ => bsl22_1 _ _) rfl (by decide) rfl hL46 ?_
                intro v48 w48 hx48 hL48 hle48 hs48 ho48
                replace hs1 := hs1.mono hle48
                replace hv1 := hv1.mono hle48
                replace hs2 := hs2.mono hle48
                replace hv2 := hv2.mono hle48
                replace hv3 := hv3.mono hle48
                replace hv6 := hv6.mono hle48
                replace hv7 := hv7.mono hle48
                replace hv10 := hv10.mono hle48
                replace hv11 := hv11.mono hle48
                replace hs16 := hs16.mono hle48
                replace hv16 := hv16.mono hle48
                replace hs17 := hs17.mono hle48
                replace hv17 := hv17.mono hle48
                replace hs18 := hs18.mono hle48
                replace hv18 := hv18.mono hle48
                replace hs19 := hs19.mono hle48
                replace hv19 := hv19.mono hle48
                replace hs20 := hs20.mono hle48
                replace hb20 := hb20.mono hle48
                replace hv23 := hv23.mono hle48
                replace hs24 := hs24.mono hle48
                replace hv24 := hv24.mono hle48
                replace hv25 := hv25.mono hle48
                replace hv28 := hv28.mono hle48
                replace hv29 := hv29.mono hle48
                replace hs30 := hs30.mono hle48
                replace hv30 := hv30.mono hle48
                replace hv31 := hv31.mono hle48
                replace hv34 := hv34.mono hle48
                replace hv35 := hv35.mono hle48
                replace hv36 := hv36.mono hle48
                replace hv45 := hv45.mono hle48
                replace hs48 := hs48.mono (nw_fz hL46)
                have hv48 := vec_of_src (elems_bytes _ [7]) hs48
                refine S_guarded rfl rfl hg47 ?_
                refine S_callL rfl rfl hL48 (same_ok _ (hv7.mono (fz_le _ _)) (hv48.mono (fz_le _ _))) ?_
                rintro _ w49 rfl hx49 hL49 hle49
                replace hs1 := hs1.mono hle49
                replace hv1 := hv1.mono hle49
                replace hs2 := hs2.mono hle49
                replace hv2 := hv2.mono hle49
                replace hv3 := hv3.mono hle49
                replace hv6 := hv6.mono hle49
                replace hv7 := hv7.mono hle49
                replace hv10 := hv10.mono hle49
                replace hv11 := hv11.mono hle49
                replace hs16 := hs16.mono hle49
                replace hv16 := hv16.mono hle49
                replace hs17 := hs17.mono hle49
                replace hv17 := hv17.mono hle49
                replace hs18 := hs18.mono hle49
                replace hv18 := hv18.mono hle49
                replace hs19 := hs19.mono hle49
                replace hv19 := hv19.mono hle49
                replace hs20 := hs20.mono hle49
                replace hb20 := hb20.mono hle49
                replace hv23 := hv23.mono hle49
                replace hs24 := hs24.mono hle49
                replace hv24 := hv24.mono hle49
                replace hv25 := hv25.mono hle49
                replace hv28 := hv28.mono hle49
                replace hv29 := hv29.mono hle49
                replace hs30 := hs30.mono hle49
                replace hv30 := hv30.mono hle49
                replace hv31 := hv31.mono hle49
                replace hv34 := hv34.mono hle49
                replace hv35 := hv35.mono hle49
                replace hv36 := hv36.mono hle49
                replace hv45 := hv45.mono hle49
                replace hs48 := hs48.mono hle49
                replace hv48 := hv48.mono hle49
                refine S_guarded rfl rfl hg47 ?_
                refine S_v (RunsAt_pu rfl) rfl ?_
                refine S_v (r_pickF rfl hg47 rfl) rfl ?_
                refine S_pu 1 rfl ?_
                refine S_split (s := 101) rfl (fun hg50 => ?_) (fun hg50 => ?_)
                · exact absurd hg50 (by decide)
                · refine S_guarded rfl rfl hg50 ?_
                  refine S_v (r_field rfl Try.underlying32 rfl zr3 (by decide)) rfl ?_
                  refine S_guarded rfl rfl hg50 ?_
                  refine S_v (r_loadB1 5 rfl Try.underlying3 rfl hL49 rfl rfl) rfl ?_
                  refine S_guarded rfl rfl hg50 ?_
                  refine S_v (RunsAt_pu rfl) rfl ?_
                  refine S_v (r_pickF rfl hg50 rfl) rfl ?_
                  refine S_pu 1 rfl ?_
                  refine S_split (s := 106) rfl (fun hg51 => ?_) (fun hg51 => ?_)
                  · exact absurd hg51 (by decide)
                  · refine S_guarded rfl rfl hg51 ?_
                    refine S_v (r_field rfl Try.underlying32 rfl zr22 (by decide)) rfl ?_
                    refine S_guarded rfl rfl hg51 ?_
                    refine S_v (r_loadB1 5 rfl Try.underlying22 rfl hL49 rfl rfl) rfl ?_
                    refine S_guarded rfl rfl hg51 ?_
                    refine S_lit (sz := 1) rfl (fun _ => bsl22_1 _ _) rfl (by decide) rfl hL49 ?_
                    intro v52 w52 hx52 hL52 hle52 hs52 ho52
                    replace hs1 := hs1.mono hle52
                    replace hv1 := hv1.mono hle52
                    replace hs2 := hs2.mono hle52
                    replace hv2 := hv2.mono hle52
                    replace hv3 := hv3.mono hle52
                    replace hv6 := hv6.mono hle52
                    replace hv7 := hv7.mono hle52
                    replace hv10 := hv10.mono hle52
                    replace hv11 := hv11.mono hle52
                    replace hs16 := hs16.mono hle52
                    replace hv16 := hv16.mono hle52
                    replace hs17 := hs17.mono hle52
                    replace hv17 := hv17.mono hle52
                    replace hs18 := hs18.mono hle52
                    replace hv18 := hv18.mono hle52
                    replace hs19 := hs19.mono hle52
                    replace hv19 := hv19.mono hle52
                    replace hs20 := hs20.mono hle52
                    replace hb20 := hb20.mono hle52
                    replace hv23 := hv23.mono hle52
                    replace hs24 := hs24.mono hle52
                    replace hv24 := hv24.mono hle52
                    replace hv25 := hv25.mono hle52
                    replace hv28 := hv28.mono hle52
                    replace hv29 := hv29.mono hle52
                    replace hs30 := hs30.mono hle52
                    replace hv30 := hv30.mono hle52
                    replace hv31 := hv31.mono hle52
                    replace hv34 := hv34.mono hle52
                    replace hv35 := hv35.mono hle52
                    replace hv36 := hv36.mono hle52
                    replace hv45 := hv45.mono hle52
                    replace hs48 := hs48.mono hle52
                    replace hv48 := hv48.mono hle52
                    replace hs52 := hs52.mono (nw_fz hL49)
                    have hv52 := vec_of_src (elems_bytes _ [6]) hs52
                    refine S_guarded rfl rfl hg51 ?_
                    refine S_callL rfl rfl hL52 (same_ok _ (hv11.mono (fz_le _ _)) (hv52.mono (fz_le _ _))) ?_
                    rintro _ w53 rfl hx53 hL53 hle53
                    replace hs1 := hs1.mono hle53
                    replace hv1 := hv1.mono hle53
                    replace hs2 := hs2.mono hle53
                    replace hv2 := hv2.mono hle53
                    replace hv3 := hv3.mono hle53
                    replace hv6 := hv6.mono hle53
                    replace hv7 := hv7.mono hle53
                    replace hv10 := hv10.mono hle53
                    replace hv11 := hv11.mono hle53
                    replace hs16 := hs16.mono hle53
                    replace hv16 := hv16.mono hle53
                    replace hs17 := hs17.mono hle53
                    replace hv17 := hv17.mono hle53
                    replace hs18 := hs18.mono hle53
                    replace hv18 := hv18.mono hle53
                    replace hs19 := hs19.mono hle53
                    replace hv19 := hv19.mono hle53
                    replace hs20 := hs20.mono hle53
                    replace hb20 := hb20.mono hle53
                    replace hv23 := hv23.mono hle53
                    replace hs24 := hs24.mono hle53
                    replace hv24 := hv24.mono hle53
                    replace hv25 := hv25.mono hle53
                    replace hv28 := hv28.mono hle53
                    replace hv29 := hv29.mono hle53
                    replace hs30 := hs30.mono hle53
                    replace hv30 := hv30.mono hle53
                    replace hv31 := hv31.mono hle53
                    replace hv34 := hv34.mono hle53
                    replace hv35 := hv35.mono hle53
                    replace hv36 := hv36.mono hle53
                    replace hv45 := hv45.mono hle53
                    replace hs48 := hs48.mono hle53
                    replace hv48 := hv48.mono hle53
                    replace hs52 := hs52.mono hle53
                    replace hv52 := hv52.mono hle53
                    refine S_guarded rfl rfl hg51 ?_
                    refine S_v (RunsAt_pu rfl) rfl ?_
                    refine S_v (r_pickF rfl hg51 rfl) rfl ?_
                    refine S_pu 1 rfl ?_
                    refine S_split (s := 113) rfl (fun hg54 => ?_) (fun hg54 => ?_)
                    · exact absurd hg54 (by decide)
                    · refine S_guarded rfl rfl hg54 ?_
                      refine S_v (RunsAt_pu rfl) rfl ?_
                      refine S_guarded rfl rfl hg54 ?_
                      refine S_lit (sz := 1) rfl (fun _ => bsl22_1 _ _) rfl (by decide) rfl hL53 ?_
                      intro v55 w55 hx55 hL55 hle55 hs55 ho55
                      replace hs1 := hs1.mono hle55
                      replace hv1 := hv1.mono hle55
                      replace hs2 := hs2.mono hle55
                      replace hv2 := hv2.mono hle55
                      replace hv3 := hv3.mono hle55
                      replace hv6 := hv6.mono hle55
                      replace hv7 := hv7.mono hle55
                      replace hv10 := hv10.mono hle55
                      replace hv11 := hv11.mono hle55
                      replace hs16 := hs16.mono hle55
                      replace hv16 := hv16.mono hle55
                      replace hs17 := hs17.mono hle55
                      replace hv17 := hv17.mono hle55
                      replace hs18 := hs18.mono hle55
                      replace hv18 := hv18.mono hle55
                      replace hs19 := hs19.mono hle55
                      replace hv19 := hv19.mono hle55
                      replace hs20 := hs20.mono hle55
                      replace hb20 := hb20.mono hle55
                      replace hv23 := hv23.mono hle55
                      replace hs24 := hs24.mono hle55
                      replace hv24 := hv24.mono hle55
                      replace hv25 := hv25.mono hle55
                      replace hv28 := hv28.mono hle55
                      replace hv29 := hv29.mono hle55
                      replace hs30 := hs30.mono hle55
                      replace hv30 := hv30.mono hle55
                      replace hv31 := hv31.mono hle55
                      replace hv34 := hv34.mono hle55
                      replace hv35 := hv35.mono hle55
                      replace hv36 := hv36.mono hle55
                      replace hv45 := hv45.mono hle55
                      replace hs48 := hs48.mono hle55
                      replace hv48 := hv48.mono hle55
                      replace hs52 := hs52.mono hle55
                      replace hv52 := hv52.mono hle55
                      replace hs55 := hs55.mono (nw_fz hL53)
                      have hv55 := vec_of_src (elems_bytes _ [4]) hs55
                      refine S_guarded rfl rfl hg54 ?_
                      refine S_callL rfl rfl hL55 (same_ok _ (hs20.mono (fz_le _ _)) (hv55.mono (fz_le _ _))) ?_
                      rintro _ w56 rfl hx56 hL56 hle56
                      replace hs1 := hs1.mono hle56
                      replace hv1 := hv1.mono hle56
                      replace hs2 := hs2.mono hle56
                      replace hv2 := hv2.mono hle56
                      replace hv3 := hv3.mono hle56
                      replace hv6 := hv6.mono hle56
                      replace hv7 := hv7.mono hle56
                      replace hv10 := hv10.mono hle56
                      replace hv11 := hv11.mono hle56
                      replace hs16 := hs16.mono hle56
                      replace hv16 := hv16.mono hle56
                      replace hs17 := hs17.mono hle56
                      replace hv17 := hv17.mono hle56
                      replace hs18 := hs18.mono hle56
                      replace hv18 := hv18.mono hle56
                      replace hs19 := hs19.mono hle56
                      replace hv19 := hv19.mono hle56
                      replace hs20 := hs20.mono hle56
                      replace hb20 := hb20.mono hle56
                      replace hv23 := hv23.mono hle56
                      replace hs24 := hs24.mono hle56
                      replace hv24 := hv24.mono hle56
                      replace hv25 := hv25.mono hle56
                      replace hv28 := hv28.mono hle56
                      replace hv29 := hv29.mono hle56
                      replace hs30 := hs30.mono hle56
                      replace hv30 := hv30.mono hle56
                      replace hv31 := hv31.mono hle56
                      replace hv34 := hv34.mono hle56
                      replace hv35 := hv35.mono hle56
                      replace hv36 := hv36.mono hle56
                      replace hv45 := hv45.mono hle56
                      replace hs48 := hs48.mono hle56
                      replace hv48 := hv48.mono hle56
                      replace hs52 := hs52.mono hle56
                      replace hv52 := hv52.mono hle56
                      replace hs55 := hs55.mono hle56
                      replace hv55 := hv55.mono hle56
                      refine S_guarded rfl rfl hg54 ?_
                      refine S_v (RunsAt_pu rfl) rfl ?_
                      refine S_v (r_pickF rfl hg54 rfl) rfl ?_
                      refine S_pu 1 rfl ?_
                      refine S_split (s := 119) rfl (fun hg57 => ?_) (fun hg57 => ?_)
                      · exact absurd hg57 (by decide)
                      · refine S_guarded rfl rfl hg57 ?_
                        refine S_v (RunsAt_pu rfl) rfl ?_
                        refine S_guarded rfl rfl hg57 ?_
                        refine S_lit (sz := 1) rfl (fun _ => bsl43_1 _ _) rfl (by decide) rfl hL56 ?_
                        intro v58 w58 hx58 hL58 hle58 hs58 ho58
                        replace hs1 := hs1.mono hle58
                        replace hv1 := hv1.mono hle58
                        replace hs2 := hs2.mono hle58
                        replace hv2 := hv2.mono hle58
                        replace hv3 := hv3.mono hle58
                        replace hv6 := hv6.mono hle58
                        replace hv7 := hv7.mono hle58
                        replace hv10 := hv10.mono hle58
                        replace hv11 := hv11.mono hle58
                        replace hs16 := hs16.mono hle58
                        replace hv16 := hv16.mono hle58
                        replace hs17 := hs17.mono hle58
                        replace hv17 := hv17.mono hle58
                        replace hs18 := hs18.mono hle58
                        replace hv18 := hv18.mono hle58
                        replace hs19 := hs19.mono hle58
                        replace hv19 := hv19.mono hle58
                        replace hs20 := hs20.mono hle58
                        replace hb20 := hb20.mono hle58
                        replace hv23 := hv23.mono hle58
                        replace hs24 := hs24.mono hle58
                        replace hv24 := hv24.mono hle58
                        replace hv25 := hv25.mono hle58
                        replace hv28 := hv28.mono hle58
                        replace hv29 := hv29.mono hle58
                        replace hs30 := hs30.mono hle58
                        replace hv30 := hv30.mono hle58
                        replace hv31 := hv31.mono hle58
                        replace hv34 := hv34.mono hle58
                        replace hv35 := hv35.mono hle58
                        replace hv36 := hv36.mono hle58
                        replace hv45 := hv45.mono hle58
                        replace hs48 := hs48.mono hle58
                        replace hv48 := hv48.mono hle58
                        replace hs52 := hs52.mono hle58
                        replace hv52 := hv52.mono hle58
                        replace hs55 := hs55.mono hle58
                        replace hv55 := hv55.mono hle58
                        replace hs58 := hs58.mono (nw_fz hL56)
                        have hv58 := vec_of_src (elems_ints _ [2]) hs58
                        refine S_guarded rfl rfl hg57 ?_
                        refine S_callL rfl rfl hL58 (ints_ok _ (hb20.mono (fz_le _ _)) (hv58.mono (fz_le _ _))) ?_
                        rintro _ w59 rfl hx59 hL59 hle59
                        replace hs1 := hs1.mono hle59
                        replace hv1 := hv1.mono hle59
                        replace hs2 := hs2.mono hle59
                        replace hv2 := hv2.mono hle59
                        replace hv3 := hv3.mono hle59
                        replace hv6 := hv6.mono hle59
                        replace hv7 := hv7.mono hle59
                        replace hv10 := hv10.mono hle59
                        replace hv11 := hv11.mono hle59
                        replace hs16 := hs16.mono hle59
                        replace hv16 := hv16.mono hle59
                        replace hs17 := hs17.mono hle59
                        replace hv17 := hv17.mono hle59
                        replace hs18 := hs18.mono hle59
                        replace hv18 := hv18.mono hle59
                        replace hs19 := hs19.mono hle59
                        replace hv19 := hv19.mono hle59
                        replace hs20 := hs20.mono hle59
                        replace hb20 := hb20.mono hle59
                        replace hv23 := hv23.mono hle59
                        replace hs24 := hs24.mono hle59
                        replace hv24 := hv24.mono hle59
                        replace hv25 := hv25.mono hle59
                        replace hv28 := hv28.mono hle59
                        replace hv29 := hv29.mono hle59
                        replace hs30 := hs30.mono hle59
                        replace hv30 := hv30.mono hle59
                        replace hv31 := hv31.mono hle59
                        replace hv34 := hv34.mono hle59
                        replace hv35 := hv35.mono hle59
                        replace hv36 := hv36.mono hle59
                        replace hv45 := hv45.mono hle59
                        replace hs48 := hs48.mono hle59
                        replace hv48 := hv48.mono hle59
                        replace hs52 := hs52.mono hle59
                        replace hv52 := hv52.mono hle59
                        replace hs55 := hs55.mono hle59
                        replace hv55 := hv55.mono hle59
                        replace hs58 := hs58.mono hle59
                        replace hv58 := hv58.mono hle59
                        refine S_guarded rfl rfl hg57 ?_
                        refine S_v (RunsAt_pu rfl) rfl ?_
                        refine S_v (r_pickF rfl hg57 rfl) rfl ?_
                        refine S_seqnil ?_
                        refine W_ifn rfl (fun hc60 => ?_) (fun hc60 => ?_)
                        · exact absurd (by decide) hc60
                        · refine W_skip ?_
                          refine At_seq ?_
                          refine W_seqd (.q 0 (.h2 1 (.q 2 (.h 3 (.q 4 (.h 5 (.q 6 (.q 7 (.q 8 (.h 9 (.q 10 (.q 11 (.q 12 (.q 13 (.q 14 (.q 15 (.q 16 (.q 17 (.tail 18))))))))))))))))) 3 (.q 4 (.h 1 (.q 2 (.h 5 (.q 6 (.q 7 (.q 8 (.h 9 (.q 10 (.q 11 (.q 12 (.q 13 (.q 14 (.q 15 (.q 16 (.q 17 (.tail 18))))))))))))))))))) mixed (by kernel_rfl) (fun w61 hx61 => ?_)
                          have hL62 := hL59.call hx61
                          have hle62 := fz_ext hL59 hx61
                          replace hs1 := hs1.mono hle62
                          replace hv1 := hv1.mono hle62
                          replace hs2 := hs2.mono hle62
                          replace hv2 := hv2.mono hle62
                          replace hv3 := hv3.mono hle62
                          replace hv6 := hv6.mono hle62
                          replace hv7 := hv7.mono hle62
                          replace hv10 := hv10.mono hle62
                          replace hv11 := hv11.mono hle62
                          replace hs16 := hs16.mono hle62
                          replace hv16 := hv16.mono hle62
                          replace hs17 := hs17.mono hle62
                          replace hv17 := hv17.mono hle62
                          replace hs18 := hs18.mono hle62
                          replace hv18 := hv18.mono hle62
                          replace hs19 := hs19.mono hle62
                          replace hv19 := hv19.mono hle62
                          replace hs20 := hs20.mono hle62
                          replace hb20 := hb20.mono hle62
                          replace hv23 := hv23.mono hle62
                          replace hs24 := hs24.mono hle62
                          replace hv24 := hv24.mono hle62
                          replace hv25 := hv25.mono hle62
                          replace hv28 := hv28.mono hle62
                          replace hv29 := hv29.mono hle62
                          replace hs30 := hs30.mono hle62
                          replace hv30 := hv30.mono hle62
                          replace hv31 := hv31.mono hle62
                          replace hv34 := hv34.mono hle62
                          replace hv35 := hv35.mono hle62
                          replace hv36 := hv36.mono hle62
                          replace hv45 := hv45.mono hle62
                          replace hs48 := hs48.mono hle62
                          replace hv48 := hv48.mono hle62
                          replace hs52 := hs52.mono hle62
                          replace hv52 := hv52.mono hle62
                          replace hs55 := hs55.mono hle62
                          replace hv55 := hv55.mono hle62
                          replace hs58 := hs58.mono hle62
                          replace hv58 := hv58.mono hle62
                          refine D_pu 1 rfl ?_
                          refine D_h2 ?_ ?_
                          · refine D_lit rfl (sz := 1) rfl (fun _ => bsl22_1 _ _) rfl (by decide) rfl hL62 ?_
                            intro v63 w63 hx63 hL63 hle63 hs63
                            replace hs1 := hs1.mono hle63
                            replace hv1 := hv1.mono hle63
                            replace hs2 := hs2.mono hle63
                            replace hv2 := hv2.mono hle63
                            replace hv3 := hv3.mono hle63
                            replace hv6 := hv6.mono hle63
                            replace hv7 := hv7.mono hle63
                            replace hv10 := hv10.mono hle63
                            replace hv11 := hv11.mono hle63
                            replace hs16 := hs16.mono hle63
                            replace hv16 := hv16.mono hle63
                            replace hs17 := hs17.mono hle63
                            replace hv17 := hv17.mono hle63
                            replace hs18 := hs18.mono hle63
                            replace hv18 := hv18.mono hle63
                            replace hs19 := hs19.mono hle63
                            replace hv19 := hv19.mono hle63
                            replace hs20 := hs20.mono hle63
                            replace hb20 := hb20.mono hle63
                            replace hv23 := hv23.mono hle63
                            replace hs24 := hs24.mono hle63
                            replace hv24 := hv24.mono hle63
                            replace hv25 := hv25.mono hle63
                            replace hv28 := hv28.mono hle63
                            replace hv29 := hv29.mono hle63
                            replace hs30 := hs30.mono hle63
                            replace hv30 := hv30.mono hle63
                            replace hv31 := hv31.mono hle63
                            replace hv34 := hv34.mono hle63
                            replace hv35 := hv35.mono hle63
                            replace hv36 := hv36.mono hle63
                            replace hv45 := hv45.mono hle63
                            replace hs48 := hs48.mono hle63
                            replace hv48 := hv48.mono hle63
                            replace hs52 := hs52.mono hle63
                            replace hv52 := hv52.mono hle63
                            replace hs55 := hs55.mono hle63
                            replace hv55 := hv55.mono hle63
                            replace hs58 := hs58.mono hle63
                            replace hv58 := hv58.mono hle63
                            have hv63 := vec_of_src (elems_bytes _ [7]) hs63
                            refine D_v (r_build rfl (fun _ => bld32_0_1 _ _ hv63.one _)) rfl rfl ?_
                            refine D_lit rfl (sz := 1) rfl (fun _ => bsl22_1 _ _) rfl (by decide) rfl hL63 ?_
                            intro v64 w64 hx64 hL64 hle64 hs64
                            replace hs1 := hs1.mono hle64
                            replace hv1 := hv1.mono hle64
                            replace hs2 := hs2.mono hle64
                            replace hv2 := hv2.mono hle64
                            replace hv3 := hv3.mono hle64
                            replace hv6 := hv6.mono hle64
                            replace hv7 := hv7.mono hle64
                            replace hv10 := hv10.mono hle64
                            replace hv11 := hv11.mono hle64
                            replace hs16 := hs16.mono hle64
                            replace hv16 := hv16.mono hle64
                            replace hs17 := hs17.mono hle64
                            replace hv17 := hv17.mono hle64
                            replace hs18 := hs18.mono hle64
                            replace hv18 := hv18.mono hle64
                            replace hs19 := hs19.mono hle64
                            replace hv19 := hv19.mono hle64
                            replace hs20 := hs20.mono hle64
                            replace hb20 := hb20.mono hle64
                            replace hv23 := hv23.mono hle64
                            replace hs24 := hs24.mono hle64
                            replace hv24 := hv24.mono hle64
                            replace hv25 := hv25.mono hle64
                            replace hv28 := hv28.mono hle64
                            replace hv29 := hv29.mono hle64
                            replace hs30 := hs30.mono hle64
                            replace hv30 := hv30.mono hle64
                            replace hv31 := hv31.mono hle64
                            replace hv34 := hv34.mono hle64
                            replace hv35 := hv35.mono hle64
                            replace hv36 := hv36.mono hle64
                            replace hv45 := hv45.mono hle64
                            replace hs48 := hs48.mono hle64
                            replace hv48 := hv48.mono hle64
                            replace hs52 := hs52.mono hle64
                            replace hv52 := hv52.mono hle64
                            replace hs55 := hs55.mono hle64
                            replace hv55 := hv55.mono hle64
                            replace hs58 := hs58.mono hle64
                            replace hv58 := hv58.mono hle64
                            replace hs63 := hs63.mono hle64
                            replace hv63 := hv63.mono hle64
                            have hv64 := vec_of_src (elems_bytes _ [7]) hs64
                            refine D_v (r_build rfl (fun _ => bld32_0_1 _ _ hv64.one _)) rfl rfl ?_
                            refine D_lit rfl (sz := 2) rfl (fun _ => bsl23_2 _ _ _ _ _) rfl (by decide) rfl hL64 ?_
                            intro v65 w65 hx65 hL65 hle65 hs65
                            replace hs1 := hs1.mono hle65
                            replace hv1 := hv1.mono hle65
                            replace hs2 := hs2.mono hle65
                            replace hv2 := hv2.mono hle65
                            replace hv3 := hv3.mono hle65
                            replace hv6 := hv6.mono hle65
                            replace hv7 := hv7.mono hle65
                            replace hv10 := hv10.mono hle65
                            replace hv11 := hv11.mono hle65
                            replace hs16 := hs16.mono hle65
                            replace hv16 := hv16.mono hle65
                            replace hs17 := hs17.mono hle65
                            replace hv17 := hv17.mono hle65
                            replace hs18 := hs18.mono hle65
                            replace hv18 := hv18.mono hle65
                            replace hs19 := hs19.mono hle65
                            replace hv19 := hv19.mono hle65
                            replace hs20 := hs20.mono hle65
                            replace hb20 := hb20.mono hle65
                            replace hv23 := hv23.mono hle65
                            replace hs24 := hs24.mono hle65
                            replace hv24 := hv24.mono hle65
                            replace hv25 := hv25.mono hle65
                            replace hv28 := hv28.mono hle65
                            replace hv29 := hv29.mono hle65
                            replace hs30 := hs30.mono hle65
                            replace hv30 := hv30.mono hle65
                            replace hv31 := hv31.mono hle65
                            replace hv34 := hv34.mono hle65
                            replace hv35 := hv35.mono hle65
                            replace hv36 := hv36.mono hle65
                            replace hv45 := hv45.mono hle65
                            replace hs48 := hs48.mono hle65
                            replace hv48 := hv48.mono hle65
                            replace hs52 := hs52.mono hle65
                            replace hv52 := hv52.mono hle65
                            replace hs55 := hs55.mono hle65
                            replace hv55 := hv55.mono hle65
                            replace hs58 := hs58.mono hle65
                            replace hv58 := hv58.mono hle65
                            replace hs63 := hs63.mono hle65
                            replace hv63 := hv63.mono hle65
                            replace hs64 := hs64.mono hle65
                            replace hv64 := hv64.mono hle65
                            have hv65 := vec_of_src (el2 hv63 hv64) hs65
                            refine D_call rfl rfl rfl (fun w66 hx66 => samesh_ok _ ((hv25.mono (fz_le _ _)).mono hx66.le) ((hv65.mono (fz_le _ _)).mono hx66.le)) ?_
                            refine D_pu 1 rfl ?_
                            refine D_split (s := 132) rfl (fun hg67 => ?_) (fun hg67 => ?_)
                            · refine D_vg (RunsAt_pu rfl) rfl rfl rfl rfl hg67 rfl ?_
                              refine D_litg rfl rfl rfl rfl hg67 (sz := 1) rfl (fun _ => bsl22_1 _ _) rfl (by decide) rfl hL65 ?_
                              intro v68 w68 hx68 hL68 hle68 hs68
                              replace hs1 := hs1.mono hle68
                              replace hv1 := hv1.mono hle68
                              replace hs2 := hs2.mono hle68
                              replace hv2 := hv2.mono hle68
                              replace hv3 := hv3.mono hle68
                              replace hv6 := hv6.mono hle68
                              replace hv7 := hv7.mono hle68
                              replace hv10 := hv10.mono hle68
                              replace hv11 := hv11.mono hle68
                              replace hs16 := hs16.mono hle68
                              replace hv16 := hv16.mono hle68
                              replace hs17 := hs17.mono hle68
                              replace hv17 := hv17.mono hle68
                              replace hs18 := hs18.mono hle68
                              replace hv18 := hv18.mono hle68
                              replace hs19 := hs19.mono hle68
                              replace hv19 := hv19.mono hle68
                              replace hs20 := hs20.mono hle68
                              replace hb20 := hb20.mono hle68
                              replace hv23 := hv23.mono hle68
                              replace hs24 := hs24.mono hle68
                              replace hv24 := hv24.mono hle68
                              replace hv25 := hv25.mono hle68
                              replace hv28 := hv28.mono hle68
                              replace hv29 := hv29.mono hle68
                              replace hs30 := hs30.mono hle68
                              replace hv30 := hv30.mono hle68
                              replace hv31 := hv31.mono hle68
                              replace hv34 := hv34.mono hle68
                              replace hv35 := hv35.mono hle68
                              replace hv36 := hv36.mono hle68
                              replace hv45 := hv45.mono hle68
                              replace hs48 := hs48.mono hle68
                              replace hv48 := hv48.mono hle68
                              replace hs52 := hs52.mono hle68
                              replace hv52 := hv52.mono hle68
                              replace hs55 := hs55.mono hle68
                              replace hv55 := hv55.mono hle68
                              replace hs58 := hs58.mono hle68
                              replace hv58 := hv58.mono hle68
                              replace hs63 := hs63.mono hle68
                              replace hv63 := hv63.mono hle68
                              replace hs64 := hs64.mono hle68
                              replace hv64 := hv64.mono hle68
                              replace hs65 := hs65.mono hle68
                              replace hv65 := hv65.mono hle68
                              have hv68 := vec_of_src (elems_bytes _ [15]) hs68
                              refine D_callg rfl rfl rfl rfl hg67 rfl rfl (fun w69 hx69 => same_ok _ ((hv31.mono (fz_le _ _)).mono hx69.le) ((hv68.mono (fz_le _ _)).mono hx69.le)) ?_
                              refine D_v (r_pickT rfl hg67 rfl) rfl rfl ?_
                              refine D_pu 1 rfl ?_
                              refine D_split (s := 137) rfl (fun hg70 => ?_) (fun hg70 => ?_)
                              · refine D_vg (r_loadBN 0 rfl Try.underlying25 rfl zr25 hL68 rfl) rfl rfl rfl rfl hg70 rfl ?_
                                refine D_callg rfl rfl rfl rfl hg70 rfl rfl (fun w71 hx71 => rat_ok _ ) ?_
                                refine D_vg (r_eqA rfl rfl eqg25 (eq25 _ _ _ _)) rfl rfl rfl rfl hg70 rfl ?_
                                refine D_v (r_pickT rfl hg70 rfl) rfl rfl ?_
                                refine D_pu 1 rfl ?_
                                refine D_tail (fun w72 hx72 => ?_)
                                have hL73 := hL68.call hx72
                                have hle73 := fz_ext hL68 hx72
                                replace hs1 := hs1.mono hle73
                                replace hv1 := hv1.mono hle73
                                replace hs2 := hs2.mono hle73
                                replace hv2 := hv2.mono hle73
                                replace hv3 := hv3.mono hle73
                                replace hv6 := hv6.mono hle73
                                replace hv7 := hv7.mono hle73
                                replace hv10 := hv10.mono hle73
                                replace hv11 := hv11.mono hle73
                                replace hs16 := hs16.mono hle73
                                replace hv16 := hv16.mono hle73
                                replace hs17 := hs17.mono hle73
                                replace hv17 := hv17.mono hle73
                                replace hs18 := hs18.mono hle73
                                replace hv18 := hv18.mono hle73
                                replace hs19 := hs19.mono hle73
                                replace hv19 := hv19.mono hle73
                                replace hs20 := hs20.mono hle73
                                replace hb20 := hb20.mono hle73
                                replace hv23 := hv23.mono hle73
                                replace hs24 := hs24.mono hle73
                                replace hv24 := hv24.mono hle73
                                replace hv25 := hv25.mono hle73
                                replace hv28 := hv28.mono hle73
                                replace hv29 := hv29.mono hle73
                                replace hs30 := hs30.mono hle73
                                replace hv30 := hv30.mono hle73
                                replace hv31 := hv31.mono hle73
                                replace hv34 := hv34.mono hle73
                                replace hv35 := hv35.mono hle73
                                replace hv36 := hv36.mono hle73
                                replace hv45 := hv45.mono hle73
                                replace hs48 := hs48.mono hle73
                                replace hv48 := hv48.mono hle73
                                replace hs52 := hs52.mono hle73
                                replace hv52 := hv52.mono hle73
                                replace hs55 := hs55.mono hle73
                                replace hv55 := hv55.mono hle73
                                replace hs58 := hs58.mono hle73
                                replace hv58 := hv58.mono hle73
                                replace hs63 := hs63.mono hle73
                                replace hv63 := hv63.mono hle73
                                replace hs64 := hs64.mono hle73
                                replace hv64 := hv64.mono hle73
                                replace hs65 := hs65.mono hle73
                                replace hv65 := hv65.mono hle73
                                replace hs68 := hs68.mono hle73
                                replace hv68 := hv68.mono hle73
                                refine S_seqnil ?_
                                refine W_ret ?_
                                refine At_body rfl rfl ?_
                                exact ⟨hL73.ext, congrArg Value.bool (by decide)⟩
                              · exact absurd hg70 (by decide)
                            · exact absurd hg67 (by decide)
                          · refine D_lit rfl (sz := 1) rfl (fun _ => bsl22_1 _ _) rfl (by decide) rfl hL62 ?_
                            intro v74 w74 hx74 hL74 hle74 hs74
                            replace hs1 := hs1.mono hle74
                            replace hv1 := hv1.mono hle74
                            replace hs2 := hs2.mono hle74
                            replace hv2 := hv2.mono hle74
                            replace hv3 := hv3.mono hle74
                            replace hv6 := hv6.mono hle74
                            replace hv7 := hv7.mono hle74
                            replace hv10 := hv10.mono hle74
                            replace hv11 := hv11.mono hle74
                            replace hs16 := hs16.mono hle74
                            replace hv16 := hv16.mono hle74
                            replace hs17 := hs17.mono hle74
                            replace hv17 := hv17.mono hle74
                            replace hs18 := hs18.mono hle74
                            replace hv18 := hv18.mono hle74
                            replace hs19 := hs19.mono hle74
                            replace hv19 := hv19.mono hle74
                            replace hs20 := hs20.mono hle74
                            replace hb20 := hb20.mono hle74
                            replace hv23 := hv23.mono hle74
                            replace hs24 := hs24.mono hle74
                            replace hv24 := hv24.mono hle74
                            replace hv25 := hv25.mono hle74
                            replace hv28 := hv28.mono hle74
                            replace hv29 := hv29.mono hle74
                            replace hs30 := hs30.mono hle74
                            replace hv30 := hv30.mono hle74
                            replace hv31 := hv31.mono hle74
                            replace hv34 := hv34.mono hle74
                            replace hv35 := hv35.mono hle74
                            replace hv36 := hv36.mono hle74
                            replace hv45 := hv45.mono hle74
                            replace hs48 := hs48.mono hle74
                            replace hv48 := hv48.mono hle74
                            replace hs52 := hs52.mono hle74
                            replace hv52 := hv52.mono hle74
                            replace hs55 := hs55.mono hle74
                            replace hv55 := hv55.mono hle74
                            replace hs58 := hs58.mono hle74
                            replace hv58 := hv58.mono hle74
                            have hv74 := vec_of_src (elems_bytes _ [7]) hs74
                            refine D_v (r_build rfl (fun _ => bld32_0_1 _ _ hv74.one _)) rfl rfl ?_
                            refine D_lit rfl (sz := 1) rfl (fun _ => bsl22_1 _ _) rfl (by decide) rfl hL74 ?_
                            intro v75 w75 hx75 hL75 hle75 hs75
                            replace hs1 := hs1.mono hle75
                            replace hv1 := hv1.mono hle75
                            replace hs2 := hs2.mono hle75
                            replace hv2 := hv2.mono hle75
                            replace hv3 := hv3.mono hle75
                            replace hv6 := hv6.mono hle75
                            replace hv7 := hv7.mono hle75
                            replace hv10 := hv10.mono hle75
                            replace hv11 := hv11.mono hle75
                            replace hs16 := hs16.mono hle75
                            replace hv16 := hv16.mono hle75
                            replace hs17 := hs17.mono hle75
                            replace hv17 := hv17.mono hle75
                            replace hs18 := hs18.mono hle75
                            replace hv18 := hv18.mono hle75
                            replace hs19 := hs19.mono hle75
                            replace hv19 := hv19.mono hle75
                            replace hs20 := hs20.mono hle75
                            replace hb20 := hb20.mono hle75
                            replace hv23 := hv23.mono hle75
                            replace hs24 := hs24.mono hle75
                            replace hv24 := hv24.mono hle75
                            replace hv25 := hv25.mono hle75
                            replace hv28 := hv28.mono hle75
                            replace hv29 := hv29.mono hle75
                            replace hs30 := hs30.mono hle75
                            replace hv30 := hv30.mono hle75
                            replace hv31 := hv31.mono hle75
                            replace hv34 := hv34.mono hle75
                            replace hv35 := hv35.mono hle75
                            replace hv36 := hv36.mono hle75
                            replace hv45 := hv45.mono hle75
                            replace hs48 := hs48.mono hle75
                            replace hv48 := hv48.mono hle75
                            replace hs52 := hs52.mono hle75
                            replace hv52 := hv52.mono hle75
                            replace hs55 := hs55.mono hle75
                            replace hv55 := hv55.mono hle75
                            replace hs58 := hs58.mono hle75
                            replace hv58 := hv58.mono hle75
                            replace hs74 := hs74.mono hle75
                            replace hv74 := hv74.mono hle75
                            have hv75 := vec_of_src (elems_bytes _ [7]) hs75
                            refine D_v (r_build rfl (fun _ => bld32_0_1 _ _ hv75.one _)) rfl rfl ?_
                            refine D_lit rfl (sz := 2) rfl (fun _ => bsl23_2 _ _ _ _ _) rfl (by decide) rfl hL75 ?_
                            intro v76 w76 hx76 hL76 hle76 hs76
                            replace hs1 := hs1.mono hle76
                            replace hv1 := hv1.mono hle76
                            replace hs2 := hs2.mono hle76
                            replace hv2 := hv2.mono hle76
                            replace hv3 := hv3.mono hle76
                            replace hv6 := hv6.mono hle76
                            replace hv7 := hv7.mono hle76
                            replace hv10 := hv10.mono hle76
                            replace hv11 := hv11.mono hle76
                            replace hs16 := hs16.mono hle76
                            replace hv16 := hv16.mono hle76
                            replace hs17 := hs17.mono hle76
                            replace hv17 := hv17.mono hle76
                            replace hs18 := hs18.mono hle76
                            replace hv18 := hv18.mono hle76
                            replace hs19 := hs19.mono hle76
                            replace hv19 := hv19.mono hle76
                            replace hs20 := hs20.mono hle76
                            replace hb20 := hb20.mono hle76
                            replace hv23 := hv23.mono hle76
                            replace hs24 := hs24.mono hle76
                            replace hv24 := hv24.mono hle76
                            replace hv25 := hv25.mono hle76
                            replace hv28 := hv28.mono hle76
                            replace hv29 := hv29.mono hle76
                            replace hs30 := hs30.mono hle76
                            replace hv30 := hv30.mono hle76
                            replace hv31 := hv31.mono hle76
                            replace hv34 := hv34.mono hle76
                            replace hv35 := hv35.mono hle76
                            replace hv36 := hv36.mono hle76
                            replace hv45 := hv45.mono hle76
                            replace hs48 := hs48.mono hle76
                            replace hv48 := hv48.mono hle76
                            replace hs52 := hs52.mono hle76
                            replace hv52 := hv52.mono hle76
                            replace hs55 := hs55.mono hle76
                            replace hv55 := hv55.mono hle76
                            replace hs58 := hs58.mono hle76
                            replace hv58 := hv58.mono hle76
                            replace hs74 := hs74.mono hle76
                            replace hv74 := hv74.mono hle76
                            replace hs75 := hs75.mono hle76
                            replace hv75 := hv75.mono hle76
                            have hv76 := vec_of_src (el2 hv75 hv74) hs76
                            refine D_call rfl rfl rfl (fun w77 hx77 => samesh_ok _ ((hv25.mono (fz_le _ _)).mono hx77.le) ((hv76.mono (fz_le _ _)).mono hx77.le)) ?_
                            refine D_pu 1 rfl ?_
                            refine D_split (s := 132) rfl (fun hg78 => ?_) (fun hg78 => ?_)
                            · refine D_vg (RunsAt_pu rfl) rfl rfl rfl rfl hg78 rfl ?_
                              refine D_litg rfl rfl rfl rfl hg78 (sz := 1) rfl (fun _ => bsl22_1 _ _) rfl (by decide) rfl hL76 ?_
                              intro v79 w79 hx79 hL79 hle79 hs79
                              replace hs1 := hs1.mono hle79
                              replace hv1 := hv1.mono hle79
                              replace hs2 := hs2.mono hle79
                              replace hv2 := hv2.mono hle79
                              replace hv3 := hv3.mono hle79
                              replace hv6 := hv6.mono hle79
                              replace hv7 := hv7.mono hle79
                              replace hv10 := hv10.mono hle79
                              replace hv11 := hv11.mono hle79
                              replace hs16 := hs16.mono hle79
                              replace hv16 := hv16.mono hle79
                              replace hs17 := hs17.mono hle79
                              replace hv17 := hv17.mono hle79
                              replace hs18 := hs18.mono hle79
                              replace hv18 := hv18.mono hle79
                              replace hs19 := hs19.mono hle79
                              replace hv19 := hv19.mono hle79
                              replace hs20 := hs20.mono hle79
                              replace hb20 := hb20.mono hle79
                              replace hv23 := hv23.mono hle79
                              replace hs24 := hs24.mono hle79
                              replace hv24 := hv24.mono hle79
                              replace hv25 := hv25.mono hle79
                              replace hv28 := hv28.mono hle79
                              replace hv29 := hv29.mono hle79
                              replace hs30 := hs30.mono hle79
                              replace hv30 := hv30.mono hle79
                              replace hv31 := hv31.mono hle79
                              replace hv34 := hv34.mono hle79
                              replace hv35 := hv35.mono hle79
                              replace hv36 := hv36.mono hle79
                              replace hv45 := hv45.mono hle79
                              replace hs48 := hs48.mono hle79
                              replace hv48 := hv48.mono hle79
                              replace hs52 := hs52.mono hle79
                              replace hv52 := hv52.mono hle79
                              replace hs55 := hs55.mono hle79
                              replace hv55 := hv55.mono hle79
                              replace hs58 := hs58.mono hle79
                              replace hv58 := hv58.mono hle79
                              replace hs74 := hs74.mono hle79
                              replace hv74 := hv74.mono hle79
                              replace hs75 := hs75.mono hle79
                              replace hv75 := hv75.mono hle79
                              replace hs76 := hs76.mono hle79
                              replace hv76 := hv76.mono hle79
                              have hv79 := vec_of_src (elems_bytes _ [15]) hs79
                              refine D_callg rfl rfl rfl rfl hg78 rfl rfl (fun w80 hx80 => same_ok _ ((hv31.mono (fz_le _ _)).mono hx80.le) ((hv79.mono (fz_le _ _)).mono hx80.le)) ?_
                              refine D_v (r_pickT rfl hg78 rfl) rfl rfl ?_
                              refine D_pu 1 rfl ?_
                              refine D_split (s := 137) rfl (fun hg81 => ?_) (fun hg81 => ?_)
                              · refine D_vg (r_loadBN 0 rfl Try.underlying25 rfl zr25 hL79 rfl) rfl rfl rfl rfl hg81 rfl ?_
                                refine D_callg rfl rfl rfl rfl hg81 rfl rfl (fun w82 hx82 => rat_ok _ ) ?_
                                refine D_vg (r_eqA rfl rfl eqg25 (eq25 _ _ _ _)) rfl rfl rfl rfl hg81 rfl ?_
                                refine D_v (r_pickT rfl hg81 rfl) rfl rfl ?_
                                refine D_pu 1 rfl ?_
                                refine D_tail (fun w83 hx83 => ?_)
                                have hL84 := hL79.call hx83
                                have hle84 := fz_ext hL79 hx83
                                replace hs1 := hs1.mono hle84
                                replace hv1 := hv1.mono hle84
                                replace hs2 := hs2.mono hle84
                                replace hv2 := hv2.mono hle84
                                replace hv3 := hv3.mono hle84
                                replace hv6 := hv6.mono hle84
                                replace hv7 := hv7.mono hle84
                                replace hv10 := hv10.mono hle84
                                replace hv11 := hv11.mono hle84
                                replace hs16 := hs16.mono hle84
                                replace hv16 := hv16.mono hle84
                                replace hs17 := hs17.mono hle84
                                replace hv17 := hv17.mono hle84
                                replace hs18 := hs18.mono hle84
                                replace hv18 := hv18.mono hle84
                                replace hs19 := hs19.mono hle84
                                replace hv19 := hv19.mono hle84
                                replace hs20 := hs20.mono hle84
                                replace hb20 := hb20.mono hle84
                                replace hv23 := hv23.mono hle84
                                replace hs24 := hs24.mono hle84
                                replace hv24 := hv24.mono hle84
                                replace hv25 := hv25.mono hle84
                                replace hv28 := hv28.mono hle84
                                replace hv29 := hv29.mono hle84
                                replace hs30 := hs30.mono hle84
                                replace hv30 := hv30.mono hle84
                                replace hv31 := hv31.mono hle84
                                replace hv34 := hv34.mono hle84
                                replace hv35 := hv35.mono hle84
                                replace hv36 := hv36.mono hle84
                                replace hv45 := hv45.mono hle84
                                replace hs48 := hs48.mono hle84
                                replace hv48 := hv48.mono hle84
                                replace hs52 := hs52.mono hle84
                                replace hv52 := hv52.mono hle84
                                replace hs55 := hs55.mono hle84
                                replace hv55 := hv55.mono hle84
                                replace hs58 := hs58.mono hle84
                                replace hv58 := hv58.mono hle84
                                replace hs74 := hs74.mono hle84
                                replace hv74 := hv74.mono hle84
                                replace hs75 := hs75.mono hle84
                                replace hv75 := hv75.mono hle84
                                replace hs76 := hs76.mono hle84
                                replace hv76 := hv76.mono hle84
                                replace hs79 := hs79.mono hle84
                                replace hv79 := hv79.mono hle84
                                refine S_seqnil ?_
                                refine W_ret ?_
                                refine At_body rfl rfl ?_
                                exact ⟨hL84.ext, congrArg Value.bool (by decide)⟩
                              · exact absurd hg81 (by decide)
                            · exact absurd hg78 (by decide)
end Go.Proofs.Ytidedcbaahiplaa
