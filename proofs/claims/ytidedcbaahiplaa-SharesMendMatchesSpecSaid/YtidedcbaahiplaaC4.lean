/- Contracts: Renew, basis, Explain. -/
import Derived.Test.YtidedcbaahiplaaC3
import Derived.KernelRfl
namespace Go.Proofs.Ytidedcbaahiplaa
open Go Go.E Go.RowKit
set_option maxRecDepth 10000 in
theorem basis_ok (w : World) {pv : Value} {p : List UInt8} {i : Nat} (hp0 : Vec .byte (hp w) pv p) (hi : i < p.length) (hn : p.length ≤ 100) :
    Ok Try.prog 53 [pv, .int .i64 (i : Int)] w (fun v w' => Ext w w' ∧ Own 5 .byte w w' v (M.bss p i)) := by
  refine Ok_enter (n := 74) [(0, pv), (1, .int .i64 (i : Int))] Try.func53 rfl rfl rfl rfl rfl ?_
  have hL := Lcl.start w
  refine W_seqr ?_
  refine S_pu 1 rfl ?_
  refine S_seqnil ?_
  refine W_seqr ?_
  refine S_lit (sz := 1) rfl (fun _ => bsl22_1 _ _) rfl (by decide) rfl hL ?_
  intro v1 w1 hx1 hL1 hle1 hs1 ho1
  obtain ⟨hL1, hle1⟩ := row_new hL hx1 ho1
  refine S_pu 1 rfl ?_
  refine S_seqnil ?_
  refine W_seq ?_
  refine W_seqr ?_
  refine S_pu 1 rfl ?_
  refine S_v (r_len rfl Try.underlying22 hp0) rfl ?_
  refine S_pu 1 rfl ?_
  refine S_seqnil ?_
  refine W_block ?_
  refine W_loop (σ := Nat × Value) (fun (⟨k, ov⟩ : Nat × Value) => [(5, ov), (16, .int .i64 (k : Int)), (0, pv), (1, .int .i64 (i : Int)), (4, .slice none 0 0), (14, pv), (15, .int .i64 ((p).length : Int))]) (fun (⟨k, ov⟩ : Nat × Value) wr => Lcl w [.row ov 5 1 (M.bsF p i k).length ((M.bsF p i k).map bv)] wr ∧ k ≤ p.length) (fun (⟨k, ov⟩ : Nat × Value) => p.length - k) (0, v1) (.cons rfl (.cons rfl (.cons rfl (.cons rfl (.cons rfl (.cons rfl (.cons rfl (Sub.nil _)))))))) ⟨hL1, Nat.zero_le _⟩ ?_
  rintro ⟨k, ov⟩ wr2 ⟨hL2, hkl⟩
  refine W_seqr ?_
  refine S_pu 1 rfl ?_
  refine S_seqnil ?_
  refine W_seq ?_
  refine W_if rfl (fun hc3 => ?_) (fun hc3 => ?_)
  · have hbl := M.bsF_length p i k
    have hb3 : (M.bsF p i k).length ≤ 101 := (by rw [hbl]; split <;> omega)
    refine W_skip ?_
    refine At_seq ?_
    refine W_seq ?_
    refine W_block ?_
    refine W_seqr ?_
    refine S_pu 1 rfl ?_
    refine S_index rfl rfl Try.underlying22 zr5 hp0 k rfl (by omega) rfl ?_
    rintro p4 _ rfl hp4
    refine S_v (r_load1 rfl Try.underlying5 rfl hp4 hL2.arg) rfl ?_
    refine S_pu 2 rfl ?_
    refine S_seqnil ?_
    refine W_seq ?_
    refine W_seqr ?_
    refine S_pu 3 rfl ?_
    refine S_seqnil ?_
    refine W_if rfl (fun hc5 => ?_) (fun hc5 => ?_)
    · refine W_exit ?_
      refine At_seq_exit ?_
      refine At_exit ?_
      refine At_seq ?_
      refine W_region ?_
      refine S_v (r_ar64 rfl rfl rfl (by omega)) rfl ?_
      refine S_pu 1 rfl ?_
      refine S_nil ?_
      refine At_round (k + 1, _) (.cons rfl (.int rfl (by omega) (.cons rfl (.cons rfl (.cons rfl (.cons rfl (.cons rfl (Sub.nil _)))))))) ⟨(by first | (rw [M.bsF, if_pos (by omega)]; exact hL2) | (rw [M.bsF, if_neg (by omega), M.nbF_length]; exact hL2)), by omega⟩ (by show p.length - (k + 1) < p.length - k; omega)
    · refine W_skip ?_
      refine At_seq ?_
      refine W_seqr ?_
      refine S_pu 2 rfl ?_
      refine S_index rfl rfl Try.underlying22 zr5 hp0 i rfl (by omega) rfl ?_
      rintro p6 _ rfl hp6
      refine S_v (r_load1 rfl Try.underlying5 rfl hp6 hL2.arg) rfl ?_
      refine S_pu 1 rfl ?_
      refine S_callL rfl rfl hL2 (add_ok _ ) ?_
      rintro _ w7 rfl hx7 hL7 hle7
      refine S_callL rfl rfl hL7 (inverse_ok _ ) ?_
      rintro _ w8 rfl hx8 hL8 hle8
      refine S_pu 3 rfl ?_
      refine S_alloc zr25 rfl rfl hL8 ?_
      intro w9 b9 hL9 hle9 _
      refine S_pu 1 rfl ?_
      refine S_storeBN 0 rfl rfl rfl zr25 hL9 rfl rfl (onc rfl (onc rfl on0)) ?_
      intro w10 hL10 hle10
      refine S_seqnil ?_
      refine W_seqr ?_
      refine S_pu 1 rfl ?_
      refine S_v (r_lenR (i := 1) rfl Try.underlying22 hL10 rfl) rfl ?_
      refine S_v (r_ar64 rfl rfl rfl (by omega)) rfl ?_
      refine S_make (m := ((M.bsF p i k).length + 1)) rfl rfl ⟨by omega, by omega⟩ Try.underlying22 zr5 rfl rfl hL10 (by omega) ?_
      intro v11 w11 hx11 hL11 hle11
      refine S_pu 1 rfl ?_
      refine S_seqnil ?_
      refine W_seq ?_
      refine W_seqr ?_
      refine S_pu 1 rfl ?_
      refine S_v (r_lenR (i := 2) rfl Try.underlying22 hL11 rfl) rfl ?_
      refine S_pu 1 rfl ?_
      refine S_seqnil ?_
      refine W_block ?_
      refine W_loop (σ := Nat) (fun j => [(8, .int .u8 ((M.ginv (p.getD i default ^^^ p.getD k default)).toNat : Int)), (39, .int .i64 ((M.bsF p i k).length : Int)), (40, .int .i64 (j : Int)), (0, pv), (1, .int .i64 (i : Int)), (4, .slice none 0 0), (5, ov), (7, .int .u8 ((p.getD k default).toNat : Int)), (10, v11), (14, pv), (15, .int .i64 ((p).length : Int)), (16, .int .i64 (k : Int)), (38, ov)]) (fun j wr => Lcl w [.row v11 5 1 ((M.bsF p i k).length + 1) ((M.nbF (M.bsF p i k) (M.ginv (p.getD i default ^^^ p.getD k default)) (p.getD k default) j).map bv), .box b9 [.int .i64 (if p.getD i default ^^^ p.getD k default = 0 then 26 else 0), .int .i64 (if p.getD i default ^^^ p.getD k default = 0 then -1 else 0)] 25, .row ov 5 1 (M.bsF p i k).length ((M.bsF p i k).map bv)] wr ∧ j ≤ (M.bsF p i k).length) (fun j => (M.bsF p i k).length - j) 0 (.cons rfl (.cons rfl (.cons rfl (.cons rfl (.cons rfl (.cons rfl (.cons rfl (.cons rfl (.cons rfl (.cons rfl (.cons rfl (.cons rfl (.cons rfl (Sub.nil _)))))))))))))) ⟨(by have h := hL11; rw [M.nbF, List.map_replicate]; exact h), Nat.zero_le _⟩ ?_
      rintro j wr12 ⟨hL12, hjl⟩
      refine W_seqr ?_
      refine S_pu 1 rfl ?_
      refine S_seqnil ?_
      refine W_seq ?_
      refine W_if rfl (fun hc13 => ?_) (fun hc13 => ?_)
      · have hnl := M.nbF_length (M.bsF p i k) (M.ginv (p.getD i default ^^^ p.getD k default)) (p.getD k default) j
        refine W_skip ?_
        refine At_seq ?_
        refine W_seq ?_
        refine W_block ?_
        refine W_seqr ?_
        refine S_pu 1 rfl ?_
        refine S_indexR 2 rfl rfl Try.underlying22 zr5 hL12 rfl j rfl (by omega) rfl ?_
        intro p14 hp14
        refine S_v (r_loadR 2 rfl Try.underlying5 rfl hL12 rfl hp14 (bytes_get (getD_some (by omega)))) rfl ?_
        refine S_pu 2 rfl ?_
        refine S_seqnil ?_
        refine W_seqr ?_
        refine S_pu 2 rfl ?_
        refine S_callL rfl rfl hL12 (mul_ok _ ) ?_
        rintro _ w15 rfl hx15 hL15 hle15
        refine S_pu 1 rfl ?_
        refine S_seqnil ?_
        refine W_seqd (.q 0 (.q 1 (.q 2 (.q 3 (.q 4 (.q 5 (.q 6 (.q 7 (.q 8 (.q 9 (.q 10 (.tail 11)))))))))))) mixed (by kernel_rfl) (fun w16 hx16 => ?_)
        have hL17 := hL15.call hx16
        refine D_pu 4 rfl ?_
        refine D_indexR 0 rfl rfl rfl Try.underlying22 zr5 hL17 rfl j rfl (by omega) rfl ?_
        intro p18 hp18
        refine D_v (r_loadR 0 rfl Try.underlying5 rfl hL17 rfl hp18 (bytes_get (getD_some (by omega)))) rfl rfl ?_
        refine D_pu 2 rfl ?_
        refine D_call rfl rfl rfl (fun w19 hx19 => mul_ok _ ) ?_
        refine D_call rfl rfl rfl (fun w20 hx20 => add_ok _ ) ?_
        refine D_indexR 0 rfl rfl rfl Try.underlying22 zr5 hL17 rfl j rfl (by omega) rfl ?_
        intro p21 hp21
        refine D_tail (fun w22 hx22 => ?_)
        have hL23 := hL17.call hx22
        refine S_storeR 0 rfl rfl rfl zr5 hL23 rfl hp21 (by rw [List.length_map]; omega) ?_
        intro w24 hL24 hle24
        refine S_seqnil ?_
        refine W_region ?_
        refine S_pu 2 rfl ?_
        refine S_v (r_ar64 rfl rfl rfl (by omega)) rfl ?_
        refine S_pu 2 rfl ?_
        refine S_v (r_ar64 rfl rfl rfl (by omega)) rfl ?_
        refine S_indexR 0 rfl rfl Try.underlying22 zr5 hL24 rfl (j + 1) (by omega) (by omega) rfl ?_
        intro p25 hp25
        refine S_v (r_loadR 0 rfl Try.underlying5 rfl hL24 rfl hp25 (by rw [show (Value.int .u8 _) = bv _ from rfl, bytes_set]; exact bytes_get (getD_some (by rw [List.length_set]; omega)))) rfl ?_
        refine S_pu 1 rfl ?_
        refine S_callL rfl rfl hL24 (add_ok _ ) ?_
        rintro _ w26 rfl hx26 hL26 hle26
        refine S_indexR 0 rfl rfl Try.underlying22 zr5 hL26 rfl (j + 1) (by omega) (by omega) rfl ?_
        intro p27 hp27
        refine S_storeR 0 rfl rfl rfl zr5 hL26 rfl hp27 (by rw [List.length_set, List.length_map]; omega) ?_
        intro w28 hL28 hle28
        refine S_nil ?_
        refine At_block ?_
        refine At_seq ?_
        refine W_region ?_
        refine S_v (r_ar64 rfl rfl rfl (by omega)) rfl ?_
        refine S_pu 1 rfl ?_
        refine S_nil ?_
        refine At_round (j + 1) (.cons rfl (.cons rfl (.int rfl (by omega) (.cons rfl (.cons rfl (.cons rfl (.cons rfl (.cons rfl (.cons rfl (.cons rfl (.cons rfl (.cons rfl (.cons rfl (Sub.nil _)))))))))))))) ⟨(by have h := hL28; simp only [M.nbF]; rw [← bytes_set, ← bytes_set]; exact h), by omega⟩ (by omega)
      · obtain rfl : j = (M.bsF p i k).length := (by omega)
        refine W_exit ?_
        refine At_seq_exit ?_
        refine At_loop_exit ?_
        refine At_exit ?_
        refine At_seq ?_
        refine W_region ?_
        refine S_pu 2 rfl ?_
        refine S_nil ?_
        refine At_block ?_
        refine At_seq ?_
        refine W_region ?_
        refine S_v (r_ar64 rfl rfl rfl (by omega)) rfl ?_
        refine S_pu 1 rfl ?_
        refine S_nil ?_
        have hL29 := hL12.dropAt (i := 1) rfl
        have hL30 := hL29.dropAt (i := 1) rfl
        refine At_round (k + 1, _) (.cons rfl (.int rfl (by omega) (.cons rfl (.cons rfl (.cons rfl (.cons rfl (.cons rfl (Sub.nil _)))))))) ⟨(by first | (rw [M.bsF, if_pos (by omega)]; exact hL30) | (rw [M.bsF, if_neg (by omega), M.nbF_length]; exact hL30)), by omega⟩ (by show p.length - (k + 1) < p.length - k; omega)
  · refine W_exit ?_
    refine At_seq_exit ?_
    refine At_loop_exit ?_
    refine At_exit ?_
    refine At_seq ?_
    refine W_seqr ?_
    refine S_pu 2 rfl ?_
    refine S_seqnil ?_
    refine W_ret ?_
    refine At_body rfl rfl ?_
    obtain rfl : k = p.length := (by omega)
    exact ⟨hL2.ext, hL2.own' (i := 0) (l := M.bss p i) rfl (elems_bytes _ _)⟩

set_option maxRecDepth 10000 in
theorem renew_ok (w : World) {lv rv : Value} {l : List M.Sh} {m : Int} {R : List UInt8} (hl : Vec shr (hp w) lv l) (hr : Vec .byte (hp w) rv R) :
    Ok Try.prog 33 [lv, .int .i64 m, rv] w (fun v w' => Ext w w' ∧ ∃ ov, v = .tuple #[ov, .agg #[.int .i64 (M.rnF l m R).1, .int .i64 (M.rnF l m R).2]] ∧ Own 32 shr w w' ov (M.rnA l m R)) := by
  have hll := hl.len_le
  have hlr := hr.len_le
  refine Ok_enter (n := 86) [(0, lv), (1, .int .i64 m), (2, rv)] Try.func33 rfl rfl rfl rfl rfl ?_
  have hL := Lcl.start w
  refine W_seqr ?_
  refine S_pu 1 rfl ?_
  refine S_alloc zr25 rfl rfl hL ?_
  intro w1 b1 hL1 hle1 _
  refine S_seqnil ?_
  refine W_seq ?_
  refine W_seqr ?_
  refine S_pu 2 rfl ?_
  refine S_callL rfl rfl hL1 (check_ok _ (hl.mono hL1.arg)) ?_
  rintro _ w2 rfl hx2 hL2 hle2
  refine S_alloc zr25 rfl rfl hL2 ?_
  intro w3 b3 hL3 hle3 _
  refine S_storeBN 0 rfl rfl rfl zr25 hL3 rfl rfl (onc rfl (onc rfl on0)) ?_
  intro w4 hL4 hle4
  refine S_seqnil ?_
  refine W_seqr ?_
  refine S_v (r_loadBN 0 rfl Try.underlying25 rfl zr25 hL4 rfl) rfl ?_
  refine S_v (r_build rfl (fun _ => bld25_z _)) rfl ?_
  refine S_v (r_neA rfl rfl eqg25 (eq25 _ _ _ _)) rfl ?_
  refine S_seqnil ?_
  refine W_ifn rfl (fun hc => ?_) (fun hc => ?_)
  · refine W_seqd (.q 0 (.q 1 (.tail 2))) mixed (by kernel_rfl) (fun w5 hx5 => ?_)
    have hL6 := hL4.call hx5
    refine D_v (r_loadBN 0 rfl Try.underlying25 rfl zr25 hL6 rfl) rfl rfl ?_
    refine D_pu 1 rfl ?_
    refine D_tail (fun w7 hx7 => ?_)
    have hL8 := hL6.call hx7
    refine S_storeBN 1 rfl rfl rfl zr25 hL8 rfl rfl (onc rfl (onc rfl on0)) ?_
    intro w9 hL9 hle9
    refine S_seqnil ?_
    refine W_ret ?_
    refine At_seq_ret ?_
    refine At_got2 rfl (.tmp rfl) (.cell rfl Try.underlying25 rfl zr25 (box_ptr (i := 1) hL9 rfl)) ?_
    have e : M.rnF l m R = M.chkAll l m := by rw [M.rnF, if_pos (ch_ne hc)]
    exact ⟨hL9.ext, _, by rw [e]; rfl, by rw [M.rnA, if_neg (by rw [e]; exact ch_ne hc)]; exact own_nil⟩
  · obtain ⟨gg, gk, gn, gm1, gm2, gml⟩ := M.chkAll_ok (ch_eq hc)
    have hmm : m = ((m.toNat : Nat) : Int) := (by omega)
    have hN := gg.m
    have h5 : 0 ≤ (m - 1) * ((l.getD 0 default).2.length : Int) := Int.mul_nonneg (by omega) (by omega)
    have h6 : (m - 1) * ((l.getD 0 default).2.length : Int) ≤ 9 * 4096 := Int.mul_le_mul (by omega) (by omega) (by omega) (by omega)
    refine W_skip ?_
    refine At_seq ?_
    refine W_seqr ?_
    refine S_pu 1 rfl ?_
    refine S_index rfl rfl Try.underlying23 zr32 hl 0 rfl (by omega) rfl ?_
    rintro p10 _ ⟨_, _, rfl, rfl, e10v, rfl, e10h⟩ hp10
    refine S_v (r_field rfl Try.underlying32 rfl zr22 (by decide)) rfl ?_
    have hp11 := hp10.add 1
    refine S_v (r_load1 rfl Try.underlying22 rfl hp11 hL4.arg) rfl ?_
    refine S_v (r_len rfl Try.underlying22 e10h) rfl ?_
    refine S_pu 1 rfl ?_
    refine S_seqnil ?_
    refine W_seq ?_
    refine W_seqr ?_
    refine S_pu 1 rfl ?_
    refine S_v (r_len rfl Try.underlying22 hr) rfl ?_
    refine S_pu 1 rfl ?_
    refine S_v (r_ar64 rfl rfl rfl (by omega)) rfl ?_
    refine S_pu 1 rfl ?_
    refine S_v (r_ar64 rfl rfl rfl (by omega)) rfl ?_
    refine S_pu 1 rfl ?_
    refine S_seqnil ?_
    refine W_ifn rfl (fun h4 => ?_) (fun h4 => ?_)
    · refine W_seqr ?_
      refine S_callL rfl rfl hL4 (sfault_ok _ ) ?_
      rintro _ w12 rfl hx12 hL12 hle12
      refine S_pu 1 rfl ?_
      refine S_storeBN 1 rfl rfl rfl zr25 hL12 rfl rfl (onc rfl (onc rfl on0)) ?_
      intro w13 hL13 hle13
      refine S_seqnil ?_
      refine W_ret ?_
      refine At_seq_ret ?_
      refine At_got2 rfl (.tmp rfl) (.cell rfl Try.underlying25 rfl zr25 (box_ptr (i := 1) hL13 rfl)) ?_
      have e : M.rnF l m R = (9, -3) := by rw [M.rnF, if_neg (fun h => h (ch_eq hc)), if_pos h4]
      exact ⟨hL13.ext, _, by rw [e]; rfl, by rw [M.rnA, if_neg (by rw [e]; decide)]; exact own_nil⟩
    · have hm1 : 1 ≤ m.toNat := (by omega)
      have hm2 : m.toNat ≤ 10 := (by omega)
      have hR : R.length = (m.toNat - 1) * (l.getD 0 default).2.length := by
        have h7 : ((m.toNat - 1 : Nat) : Int) = m - 1 := by omega
        have h8 : (((m.toNat - 1) * (l.getD 0 default).2.length : Nat) : Int) = (m - 1) * ((l.getD 0 default).2.length : Int) := by rw [Int.natCast_mul, h7]
        omega
      have hR2 : R.length = (m.toNat - 1) * (List.replicate (l.getD 0 default).2.length (0 : UInt8)).length := by rw [List.length_replicate]; exact hR
      have hn2 : (List.replicate (l.getD 0 default).2.length (0 : UInt8)).length ≤ 4096 := by rw [List.length_replicate]; omega
      refine W.sub (L' := [(0, lv), (1, .int .i64 ((m.toNat : Nat) : Int)), (2, rv), (6, .slice none 0 0), (7, .pointer (some ⟨b1, 0, none⟩)), (9, .int .i64 ((l.getD 0 default).2.length : Int))]) ?_ (.cons rfl (.int rfl (by omega) (.cons rfl (.cons rfl (.cons rfl (.cons rfl (.nil _)))))))
      refine W_skip ?_
      refine At_seq ?_
      refine W_seq ?_
      refine W_seqr ?_
      refine S_pu 2 rfl ?_
      refine S_callL rfl rfl hL4 (forged_ok _ (hl.mono hL4.arg) (by assumption) (by omega) (by omega)) ?_
      rintro _ w14 rfl hx14 hL14 hle14
      refine S_alloc zr25 rfl rfl hL14 ?_
      intro w15 b15 hL15 hle15 _
      refine S_storeBN 0 rfl rfl rfl zr25 hL15 rfl rfl (onc rfl (onc rfl on0)) ?_
      intro w16 hL16 hle16
      refine S_seqnil ?_
      refine W_seqr ?_
      refine S_v (r_loadBN 0 rfl Try.underlying25 rfl zr25 hL16 rfl) rfl ?_
      refine S_v (r_build rfl (fun _ => bld25_z _)) rfl ?_
      refine S_v (r_neA rfl rfl eqg25 (eq25 _ _ _ _)) rfl ?_
      refine S_seqnil ?_
      refine W_ifn rfl (fun hf => ?_) (fun hf => ?_)
      · refine W_seqd (.q 0 (.q 1 (.tail 2))) mixed (by kernel_rfl) (fun w17 hx17 => ?_)
        have hL18 := hL16.call hx17
        refine D_v (r_loadBN 0 rfl Try.underlying25 rfl zr25 hL18 rfl) rfl rfl ?_
        refine D_pu 1 rfl ?_
        refine D_tail (fun w19 hx19 => ?_)
        have hL20 := hL18.call hx19
        refine S_storeBN 2 rfl rfl rfl zr25 hL20 rfl rfl (onc rfl (onc rfl on0)) ?_
        intro w21 hL21 hle21
        refine S_seqnil ?_
        refine W_ret ?_
        refine At_seq_ret ?_
        refine At_got2 rfl (.tmp rfl) (.cell rfl Try.underlying25 rfl zr25 (box_ptr (i := 2) hL21 rfl)) ?_
        have e : M.rnF l m R = M.frg l m.toNat := by rw [M.rnF, if_neg (fun h => h (ch_eq hc)), if_neg (fun h => h h4)]
        exact ⟨hL21.ext, _, by rw [e]; rfl, by rw [M.rnA, if_neg (by rw [e]; exact ch_ne hf)]; exact own_nil⟩
      · refine W_skip ?_
        refine At_seq ?_
        refine W_seqr ?_
        have hL22 := hL16.dropAt (i := 0) rfl
        have hL23 := hL22.dropAt (i := 0) rfl
        refine S_pu 1 rfl ?_
        refine S_seqnil ?_
        refine W_seq ?_
        refine W_seqr ?_
        refine S_pu 1 rfl ?_
        refine S_v (r_len rfl Try.underlying23 hl) rfl ?_
        refine S_pu 1 rfl ?_
        refine S_seqnil ?_
        refine W_block ?_
        refine W_loop (σ := Nat × Value × List Value) (fun (⟨k, ov, xs⟩ : Nat × Value × List Value) => [(11, ov), (45, .int .i64 (k : Int)), (1, .int .i64 ((m.toNat : Nat) : Int)), (2, rv), (6, .slice none 0 0), (7, .pointer (some ⟨b1, 0, none⟩)), (9, .int .i64 ((l.getD 0 default).2.length : Int)), (43, lv), (44, .int .i64 ((l).length : Int))]) (fun (⟨k, ov, xs⟩ : Nat × Value × List Value) wr => Lcl w [.row ov 32 2 k xs, .box b1 [.int .i64 0, .int .i64 0] 25] wr ∧ k ≤ l.length ∧ Elems shr (nf w wr [.row ov 32 2 k xs, .box b1 [.int .i64 0, .int .i64 0] 25]) (M.rnl l m.toNat R k) xs) (fun (⟨k, ov, xs⟩ : Nat × Value × List Value) => l.length - k) (0, .slice none 0 0, []) (.cons rfl (.cons rfl (.cons rfl (.cons rfl (.cons rfl (.cons rfl (.cons rfl (.cons rfl (.cons rfl (Sub.nil _)))))))))) ⟨(row_nil hL23 32 2).1, Nat.zero_le _, .nil⟩ ?_
        rintro ⟨k, ov, xs⟩ wr24 ⟨hL24, hkl, he24⟩
        refine W_seqr ?_
        refine S_pu 1 rfl ?_
        refine S_seqnil ?_
        refine W_seq ?_
        refine W_if rfl (fun hc25 => ?_) (fun hc25 => ?_)
        · have hk0 := (gg.k k (by omega)).1
          have hdk := gg.d k (by omega)
          have hevl := M.ev_length (S := List.replicate (l.getD 0 default).2.length 0) (x := M.kb (l.getD k default).1) hR2
          rw [List.length_replicate] at hevl
          have hevl2 : (M.ev (List.replicate (l.getD 0 default).2.length 0) m.toNat R (UInt8.ofNat ((l.getD k default).1).toNat)).length = (l.getD 0 default).2.length := hevl
          refine W_skip ?_
          refine At_seq ?_
          refine W_seq ?_
          refine W_block ?_
          refine W_seqr ?_
          refine S_index rfl rfl Try.underlying23 zr32 hl k rfl (by omega) rfl ?_
          rintro p26 _ ⟨_, _, rfl, rfl, e26v, rfl, e26h⟩ hp26
          refine S_v (r_loadN rfl Try.underlying32 rfl zr32 hp26 hL24.arg) rfl ?_
          refine S_alloc zr32 rfl rfl hL24 ?_
          intro w27 b27 hL27 hle27 _
          replace he24 := he24.mono (nf_mono hle27)
          refine S_storeBN 0 rfl rfl rfl zr32 hL27 rfl rfl (onc rfl (onc e26h.one on0)) ?_
          intro w28 hL28 hle28
          replace he24 := he24.mono (nf_mono hle28)
          refine S_seqnil ?_
          refine W_seqd (.q 0 (.q 2 (.q 3 (.q 4 (.q 5 (.q 6 (.h 1 (.h 7 (.q 8 (.tail 9)))))))))) mixed (by kernel_rfl) (fun w29 hx29 => ?_)
          have hL30 := hL28.call hx29
          have hle30 := fz_ext hL28 hx29
          replace he24 := he24.mono (nf_mono hle30)
          refine D_pu 3 rfl ?_
          refine D_v (r_field rfl Try.underlying32 rfl zr3 (by decide)) rfl rfl ?_
          refine D_v (r_loadB1 0 rfl Try.underlying3 rfl hL30 rfl rfl) rfl rfl ?_
          refine D_v (r_conv Try.underlying3 Try.underlying5 rfl (conv_64_8 (by omega))) rfl rfl ?_
          refine D_make (m := (l.getD 0 default).2.length) rfl rfl rfl ⟨rfl, rfl⟩ Try.underlying22 zr5 rfl rfl hL30 (by omega) ?_
          intro v31 w31 hx31 hL31 hle31
          replace he24 := he24.mono (nf_mono hle31)
          refine D_hcall rfl rfl rfl (fun w32 hx32 => eval_ok _ ((hL31.vecR2 (i := 0) rfl (by simp) (elems_zero _ _)).mono hx32.le) (hr.mono (hL31.call hx32).arg) hn2 hm1 hm2 hR2) ?_
          intro w32 v33 w33 hx32 hx33 hR33
          have hL34 := hL31.call hx32
          have hle34 := fz_ext hL31 hx32
          replace he24 := he24.mono (nf_mono hle34)
          obtain ⟨xs33, hL33, hle33, he33⟩ := hR33.take hL34 hx33
          replace he24 := he24.mono (nf_mono hle33)
          obtain rfl := bytes_elems he33
          refine D_pu 1 rfl ?_
          refine D_tail (fun w35 hx35 => ?_)
          have hL36 := hL33.call hx35
          have hle36 := fz_ext hL33 hx35
          replace he33 := he33.mono hle36
          replace he24 := he24.mono (nf_mono hle36)
          refine S_seqnil ?_
          refine W_seq ?_
          refine W_seqr ?_
          refine S_pu 1 rfl ?_
          refine S_v (r_lenR (i := 0) rfl Try.underlying22 hL36 rfl) rfl ?_
          refine S_pu 1 rfl ?_
          refine S_seqnil ?_
          refine W_block ?_
          have hL37 := hL36.dropAt (i := 1) rfl
          replace he33 := he33.mono (fz_dropAt (i := 1) rfl)
          replace he24 := he24.mono (nf_mono (fz_dropAt (i := 1) rfl))
          refine W_loop (σ := Nat) (fun i => [(58, .int .i64 ((l.getD 0 default).2.length : Int)), (59, .int .i64 (i : Int)), (1, .int .i64 ((m.toNat : Nat) : Int)), (2, rv), (6, .slice none 0 0), (7, .pointer (some ⟨b1, 0, none⟩)), (9, .int .i64 ((l.getD 0 default).2.length : Int)), (11, ov), (13, .pointer (some ⟨b27, 0, none⟩)), (14, v33), (43, lv), (44, .int .i64 ((l).length : Int)), (45, .int .i64 (k : Int))]) (fun i wr => Lcl w [.row v33 5 1 (l.getD 0 default).2.length ((M.addTo 1 (M.ev (List.replicate (l.getD 0 default).2.length 0) m.toNat R (M.kb (l.getD k default).1)) (l.getD k default).2 i).map bv), .box b27 [.int .i64 (l.getD k default).1, e26v] 32, .row ov 32 2 k xs, .box b1 [.int .i64 0, .int .i64 0] 25] wr ∧ i ≤ (l.getD 0 default).2.length ∧ Elems shr (nf w wr [.row v33 5 1 (l.getD 0 default).2.length ((M.addTo 1 (M.ev (List.replicate (l.getD 0 default).2.length 0) m.toNat R (M.kb (l.getD k default).1)) (l.getD k default).2 i).map bv), .box b27 [.int .i64 (l.getD k default).1, e26v] 32, .row ov 32 2 k xs, .box b1 [.int .i64 0, .int .i64 0] 25]) (M.rnl l m.toNat R k) xs) (fun i => (l.getD 0 default).2.length - i) 0 (.int rfl (by rw [hevl2]) (.cons rfl (.cons rfl (.cons rfl (.cons rfl (.cons rfl (.cons rfl (.cons rfl (.cons rfl (.cons rfl (.cons rfl (.cons rfl (.cons rfl (Sub.nil _)))))))))))))) ⟨(by rw [M.addTo_zero]; have h := hL37; (first | rw [hevl2] at h | rw [hevl] at h); exact h), Nat.zero_le _, (by rw [M.addTo_zero]; have h := he24; (first | rw [hevl2] at h | rw [hevl] at h); exact h)⟩ ?_
          rintro i wr38 ⟨hL38, hil, he38⟩
          refine W_seqr ?_
          refine S_pu 1 rfl ?_
          refine S_seqnil ?_
          refine W_seq ?_
          refine W_if rfl (fun hc39 => ?_) (fun hc39 => ?_)
          · refine W_skip ?_
            refine At_seq ?_
            refine W_seq ?_
            refine W_block ?_
            refine W_seqr ?_
            refine S_pu 2 rfl ?_
            refine S_seqnil ?_
            refine W_regd (.q 0 (.q 1 (.q 2 (.q 3 (.q 4 (.q 5 (.q 6 (.q 7 (.q 8 (.q 9 (.q 10 (.q 11 (.q 12 (.tail 13)))))))))))))) mixed (by kernel_rfl) (fun w40 hx40 => ?_)
            have hL41 := hL38.call hx40
            have hle41 := fz_ext hL38 hx40
            replace he38 := he38.mono (nf_mono hle41)
            refine D_pu 4 rfl ?_
            refine D_indexR 0 rfl rfl rfl Try.underlying22 zr5 hL41 rfl i rfl (by omega) rfl ?_
            intro p42 hp42
            refine D_v (r_loadR 0 rfl Try.underlying5 rfl hL41 rfl hp42 (bytes_get (M.addTo_get _ _ _ _ (by omega) (by omega)))) rfl rfl ?_
            refine D_v (r_field rfl Try.underlying32 rfl zr22 (by decide)) rfl rfl ?_
            refine D_v (r_loadB1 1 rfl Try.underlying22 rfl hL41 rfl rfl) rfl rfl ?_
            refine D_pu 1 rfl ?_
            refine D_index rfl rfl rfl Try.underlying22 zr5 e26h i rfl (by omega) rfl ?_
            rintro p43 _ rfl hp43
            refine D_v (r_load1 rfl Try.underlying5 rfl hp43 hL41.arg) rfl rfl ?_
            refine D_call rfl rfl rfl (fun w44 hx44 => add_ok _ ) ?_
            refine D_indexR 0 rfl rfl rfl Try.underlying22 zr5 hL41 rfl i rfl (by omega) rfl ?_
            intro p45 hp45
            refine D_tail (fun w46 hx46 => ?_)
            have hL47 := hL41.call hx46
            have hle47 := fz_ext hL41 hx46
            replace he38 := he38.mono (nf_mono hle47)
            refine S_storeR 0 rfl rfl rfl zr5 hL47 rfl hp45 (by rw [List.length_map, M.addTo_length _ _ _ _ (by omega) (by omega)]; omega) ?_
            intro w48 hL48 hle48
            replace he38 := he38.mono (nf_mono hle48)
            refine S_nil ?_
            refine At_block ?_
            refine At_seq ?_
            refine W_region ?_
            refine S_v (r_ar64 rfl rfl rfl (by omega)) rfl ?_
            refine S_pu 1 rfl ?_
            refine S_nil ?_
            refine At_round (i + 1) (.cons rfl (.int rfl (by omega) (.cons rfl (.cons rfl (.cons rfl (.cons rfl (.cons rfl (.cons rfl (.cons rfl (.cons rfl (.cons rfl (.cons rfl (.cons rfl (Sub.nil _)))))))))))))) ⟨(by have h := hL48; rw [← M.one_mul ((l.getD k default).2.getD i default)] at h; rw [← M.addTo_succ _ _ _ _ (by omega) (by omega), ← bytes_set]; exact h), by omega, (by have h := he38; rw [← M.one_mul ((l.getD k default).2.getD i default)] at h; rw [← M.addTo_succ _ _ _ _ (by omega) (by omega), ← bytes_set]; exact h)⟩ (by omega)
          · obtain rfl : i = (l.getD 0 default).2.length := (by omega)
            have hall := M.addTo_all 1 (M.ev (List.replicate (l.getD 0 default).2.length 0) m.toNat R (M.kb (l.getD k default).1)) (l.getD k default).2 (by omega)
            rw [hevl] at hall
            rw [hall] at hL38
            rw [hall] at he38
            refine W_exit ?_
            refine At_seq_exit ?_
            refine At_loop_exit ?_
            refine At_exit ?_
            refine At_seq ?_
            refine W_region ?_
            refine S_pu 1 rfl ?_
            refine S_v (r_field rfl Try.underlying32 rfl zr3 (by decide)) rfl ?_
            refine S_v (r_loadB1 1 rfl Try.underlying3 rfl hL38 rfl rfl) rfl ?_
            refine S_pu 1 rfl ?_
            have hv49 : Vec .byte _ _ (M.addRow 1 (M.ev (List.replicate (l.getD 0 default).2.length 0) m.toNat R (M.kb (l.getD k default).1)) (l.getD k default).2) := hL38.vecDN (i := 0) rfl (by rw [M.addRow_length, hevl]; omega) (elems_bytes _ _)
            have hL49 := hL38.dropAt (i := 0) rfl
            replace he38 := he38.mono (nf_mono (fz_dropAt (i := 0) rfl))
            refine S_v (r_build rfl (fun _ => bld32_0_1 _ _ hv49.one _)) rfl ?_
            refine S_lit (sz := 2) rfl (fun _ => bsl23_1 _ _ _) rfl (by decide) rfl hL49 ?_
            intro v50 w50 hx50 hL50 hle50 hs50 ho50
            replace he38 := he38.mono (nf_mono hle50)
            replace hv49 := hv49.mono (nf_mono hle50)
            replace hs50 := hs50.mono (nw_fz hL49)
            refine S_append 1 rfl rfl Try.underlying23 zr32 rfl (by decide) rfl hL50 rfl (hs50.mono (fz_le _ _)) (onc rfl (onc hv49.one on0)) (by omega) ?_
            intro v51 w51 hL51 hle51
            replace hs50 := hs50.mono hle51
            replace he38 := he38.mono (nf_mono hle51)
            replace hv49 := hv49.mono (nf_mono hle51)
            refine S_pu 1 rfl ?_
            refine S_nil ?_
            refine At_block ?_
            refine At_seq ?_
            refine W_region ?_
            refine S_v (r_ar64 rfl rfl rfl (by omega)) rfl ?_
            refine S_pu 1 rfl ?_
            refine S_nil ?_
            have hL52 := hL51.dropAt (i := 0) rfl
            replace hs50 := hs50.mono (fz_dropAt (i := 0) rfl)
            replace he38 := he38.mono (nf_mono (fz_dropAt (i := 0) rfl))
            replace hv49 := hv49.mono (nf_mono (fz_dropAt (i := 0) rfl))
            refine At_round (k + 1, v51, _) (.cons rfl (.int rfl (by omega) (.cons rfl (.cons rfl (.cons rfl (.cons rfl (.cons rfl (.cons rfl (.cons rfl (Sub.nil _)))))))))) ⟨hL52, by omega, (by rw [M.rnl_succ (by omega)]; exact he38.append (.single ⟨_, _, rfl, rfl, _, rfl, hv49⟩))⟩ (by show l.length - (k + 1) < l.length - k; omega)
        · refine W_exit ?_
          refine At_seq_exit ?_
          refine At_loop_exit ?_
          refine At_exit ?_
          refine At_seq ?_
          refine W_seqr ?_
          refine S_pu 1 rfl ?_
          refine S_v (r_build rfl (fun _ => bld25_z _)) rfl ?_
          refine S_pu 1 rfl ?_
          refine S_storeBN 1 rfl rfl rfl zr25 hL24 rfl rfl (onc rfl (onc rfl on0)) ?_
          intro w53 hL53 hle53
          replace he24 := he24.mono (nf_mono hle53)
          refine S_seqnil ?_
          refine W_ret ?_
          refine At_got2 rfl (.tmp rfl) (.cell rfl Try.underlying25 rfl zr25 (box_ptr (i := 1) hL53 rfl)) ?_
          have e : M.rnF l m R = (0, 0) := by rw [M.rnF, if_neg (fun h => h (ch_eq hc)), if_neg (fun h => h h4)]; exact ch_eq hf
          obtain rfl : k = l.length := (by omega)
          exact ⟨hL53.ext, _, by rw [e]; rfl, by rw [M.rnA, if_pos e]; exact hL53.ownN (i := 0) (by rw [M.rnl_length (Nat.le_refl _)]; rfl) he24⟩

set_option maxRecDepth 10000 in
theorem explain_ok (w : World) {lv sv : Value} {l : List M.Sh} {m : Int} {S : List UInt8} (hl : Vec shr (hp w) lv l) (hs : Vec .byte (hp w) sv S) :
    Ok Try.prog 35 [lv, .int .i64 m, sv] w (fun v w' => Ext w w' ∧ ∃ ov, v = .tuple #[ov, .agg #[.int .i64 (M.exF l m S).1, .int .i64 (M.exF l m S).2]] ∧ Own 5 .byte w w' ov (M.exA l m S)) := by
  have hll := hl.len_le
  have hls := hs.len_le
  refine Ok_enter (n := 120) [(0, lv), (1, .int .i64 m), (2, sv)] Try.func35 rfl rfl rfl rfl rfl ?_
  have hL := Lcl.start w
  refine W_seqr ?_
  refine S_pu 1 rfl ?_
  refine S_alloc zr25 rfl rfl hL ?_
  intro w1 b1 hL1 hle1 _
  refine S_seqnil ?_
  refine W_seq ?_
  refine W_seqr ?_
  refine S_pu 1 rfl ?_
  refine S_callL rfl rfl hL1 (checkl_ok _ (hl.mono hL1.arg)) ?_
  rintro _ w2 rfl hx2 hL2 hle2
  refine S_alloc zr25 rfl rfl hL2 ?_
  intro w3 b3 hL3 hle3 _
  refine S_storeBN 0 rfl rfl rfl zr25 hL3 rfl rfl (onc rfl (onc rfl on0)) ?_
  intro w4 hL4 hle4
  refine S_seqnil ?_
  refine W_seqr ?_
  refine S_v (r_loadBN 0 rfl Try.underlying25 rfl zr25 hL4 rfl) rfl ?_
  refine S_v (r_build rfl (fun _ => bld25_z _)) rfl ?_
  refine S_v (r_neA rfl rfl eqg25 (eq25 _ _ _ _)) rfl ?_
  refine S_seqnil ?_
  refine W_ifn rfl (fun hc => ?_) (fun hc => ?_)
  · refine W_seqd (.q 0 (.q 1 (.tail 2))) mixed (by kernel_rfl) (fun w5 hx5 => ?_)
    have hL6 := hL4.call hx5
    refine D_v (r_loadBN 0 rfl Try.underlying25 rfl zr25 hL6 rfl) rfl rfl ?_
    refine D_pu 1 rfl ?_
    refine D_tail (fun w7 hx7 => ?_)
    have hL8 := hL6.call hx7
    refine S_storeBN 1 rfl rfl rfl zr25 hL8 rfl rfl (onc rfl (onc rfl on0)) ?_
    intro w9 hL9 hle9
    refine S_seqnil ?_
    refine W_ret ?_
    refine At_seq_ret ?_
    refine At_got2 rfl (.tmp rfl) (.cell rfl Try.underlying25 rfl zr25 (box_ptr (i := 1) hL9 rfl)) ?_
    have e : M.exF l m S = M.chkList l := by unfold M.exF; rw [if_pos (ch_ne hc)]
    exact ⟨hL9.ext, _, by rw [e]; rfl, by rw [M.exA, if_neg (by rw [e]; exact ch_ne hc)]; exact own_nil⟩
  · refine W_skip ?_
    refine At_seq ?_
    refine W_cut (σ := Unit) (fun _ => [(0, lv), (1, .int .i64 m), (2, sv), (7, .pointer (some ⟨b1, 0, none⟩))]) (fun _ wr => Lcl w [.box b3 [.int .i64 (M.chkList l).1, .int .i64 (M.chkList l).2] 25, .box b1 [.int .i64 0, .int .i64 0] 25] wr ∧ M.exF l m S = (0, 0)) ?_ ?_
    · refine W_block ?_
      refine W_seqr ?_
      refine S_pu 1 rfl ?_
      refine S_callL rfl rfl hL4 (valid_ok _ ) ?_
      rintro _ w11 rfl hx11 hL11 hle11
      refine S_pu 2 rfl ?_
      refine S_seqnil ?_
      refine W_ifn rfl (fun h2 => ?_) (fun h2 => ?_)
      · refine W_seqr ?_
        refine S_callL rfl rfl hL11 (sfault_ok _ ) ?_
        rintro _ w12 rfl hx12 hL12 hle12
        refine S_pu 1 rfl ?_
        refine S_storeBN 1 rfl rfl rfl zr25 hL12 rfl rfl (onc rfl (onc rfl on0)) ?_
        intro w13 hL13 hle13
        refine S_seqnil ?_
        refine W_ret ?_
        refine At_block_ret ?_
        refine At_cut_ret ?_
        refine At_got2 rfl (.tmp rfl) (.cell rfl Try.underlying25 rfl zr25 (box_ptr (i := 1) hL13 rfl)) ?_
        have e : M.exF l m S = (4, -2) := by unfold M.exF; rw [if_neg (fun h => h (ch_eq hc)), if_pos h2]
        exact ⟨hL13.ext, _, by rw [e]; rfl, by rw [M.exA, if_neg (by rw [e]; decide)]; exact own_nil⟩
      · refine W_seqr ?_
        refine S_pu 1 rfl ?_
        refine S_v (r_len rfl Try.underlying23 hl) rfl ?_
        refine S_pu 1 rfl ?_
        refine S_v (r_ar64 rfl rfl rfl (by omega)) rfl ?_
        refine S_pu 2 rfl ?_
        refine S_seqnil ?_
        refine W_ifn rfl (fun h3 => ?_) (fun h3 => ?_)
        · refine W_seqr ?_
          refine S_callL rfl rfl hL11 (sfault_ok _ ) ?_
          rintro _ w14 rfl hx14 hL14 hle14
          refine S_pu 1 rfl ?_
          refine S_storeBN 1 rfl rfl rfl zr25 hL14 rfl rfl (onc rfl (onc rfl on0)) ?_
          intro w15 hL15 hle15
          refine S_seqnil ?_
          refine W_ret ?_
          refine At_block_ret ?_
          refine At_cut_ret ?_
          refine At_got2 rfl (.tmp rfl) (.cell rfl Try.underlying25 rfl zr25 (box_ptr (i := 1) hL15 rfl)) ?_
          have e : M.exF l m S = (9, -1) := by unfold M.exF; rw [if_neg (fun h => h (ch_eq hc)), if_neg (fun h => h h2), if_pos h3]
          exact ⟨hL15.ext, _, by rw [e]; rfl, by rw [M.exA, if_neg (by rw [e]; decide)]; exact own_nil⟩
        · refine W_seqr ?_
          refine S_pu 1 rfl ?_
          refine S_v (r_len rfl Try.underlying22 hs) rfl ?_
          refine S_pu 2 rfl ?_
          refine S_seqnil ?_
          refine W_if rfl (fun h4 => ?_) (fun h4 => ?_)
          · refine W_seqr ?_
            refine S_callL rfl rfl hL11 (sfault_ok _ ) ?_
            rintro _ w16 rfl hx16 hL16 hle16
            refine S_pu 1 rfl ?_
            refine S_storeBN 1 rfl rfl rfl zr25 hL16 rfl rfl (onc rfl (onc rfl on0)) ?_
            intro w17 hL17 hle17
            refine S_seqnil ?_
            refine W_ret ?_
            refine At_block_ret ?_
            refine At_cut_ret ?_
            refine At_got2 rfl (.tmp rfl) (.cell rfl Try.underlying25 rfl zr25 (box_ptr (i := 1) hL17 rfl)) ?_
            have e : M.exF l m S = (3, -3) := by unfold M.exF; rw [if_neg (fun h => h (ch_eq hc)), if_neg (fun h => h h2), if_neg (fun h => h h3), if_pos (by omega)]
            exact ⟨hL17.ext, _, by rw [e]; rfl, by rw [M.exA, if_neg (by rw [e]; decide)]; exact own_nil⟩
          · refine W_seqr ?_
            refine S_pu 1 rfl ?_
            refine S_v (r_len rfl Try.underlying23 hl) rfl ?_
            refine S_pu 2 rfl ?_
            refine S_split (s := 46) rfl (fun hg18 => ?_) (fun hg18 => ?_)
            · have hbad := of_decide_eq_true hg18
              refine S_guarded rfl rfl hg18 ?_
              refine S_v (RunsAt_pu rfl) rfl ?_
              refine S_guarded rfl rfl hg18 ?_
              refine S_v (r_len rfl Try.underlying22 hs) rfl ?_
              refine S_guarded rfl rfl hg18 ?_
              refine S_v (RunsAt_pu rfl) rfl ?_
              refine S_guarded rfl rfl hg18 ?_
              refine S_index rfl rfl Try.underlying23 zr32 hl 0 rfl (by omega) rfl ?_
              rintro p19 _ ⟨_, _, rfl, rfl, e19v, rfl, e19h⟩ hp19
              refine S_guarded rfl rfl hg18 ?_
              refine S_v (r_field rfl Try.underlying32 rfl zr22 (by decide)) rfl ?_
              have hp20 := hp19.add 1
              refine S_guarded rfl rfl hg18 ?_
              refine S_v (r_load1 rfl Try.underlying22 rfl hp20 hL11.arg) rfl ?_
              refine S_guarded rfl rfl hg18 ?_
              refine S_v (r_len rfl Try.underlying22 e19h) rfl ?_
              refine S_guarded rfl rfl hg18 ?_
              refine S_v (RunsAt_pu rfl) rfl ?_
              refine S_v (r_pickT rfl hg18 rfl) rfl ?_
              refine S_pu 1 rfl ?_
              refine S_seqnil ?_
              refine W_ifn rfl (fun h5 => ?_) (fun h5 => ?_)
              · refine W_seqr ?_
                refine S_callL rfl rfl hL11 (sfault_ok _ ) ?_
                rintro _ w21 rfl hx21 hL21 hle21
                refine S_pu 1 rfl ?_
                refine S_storeBN 1 rfl rfl rfl zr25 hL21 rfl rfl (onc rfl (onc rfl on0)) ?_
                intro w22 hL22 hle22
                refine S_seqnil ?_
                refine W_ret ?_
                refine At_block_ret ?_
                refine At_cut_ret ?_
                refine At_got2 rfl (.tmp rfl) (.cell rfl Try.underlying25 rfl zr25 (box_ptr (i := 1) hL22 rfl)) ?_
                have e : M.exF l m S = (9, -3) := by unfold M.exF; rw [if_neg (fun h => h (ch_eq hc)), if_neg (fun h => h h2), if_neg (fun h => h h3), if_neg (by omega), if_pos (by omega)]
                exact ⟨hL22.ext, _, by rw [e]; rfl, by rw [M.exA, if_neg (by rw [e]; decide)]; exact own_nil⟩
              · refine W_skip ?_
                refine At_block ?_
                refine At_cut () (.cons rfl (.cons rfl (.cons rfl (.cons rfl (Sub.nil _))))) ⟨hL11, by unfold M.exF; rw [if_neg (fun h => h (ch_eq hc)), if_neg (fun h => h h2), if_neg (fun h => h h3), if_neg (by omega), if_neg (by omega)]⟩
            · have hlow := of_decide_eq_false hg18
              refine S_unwanted rfl rfl hg18 rfl ?_
              refine S_unwanted rfl rfl hg18 rfl ?_
              refine S_unwanted rfl rfl hg18 rfl ?_
              refine S_unwanted rfl rfl hg18 rfl ?_
              refine S_unwanted rfl rfl hg18 rfl ?_
              refine S_unwanted rfl rfl hg18 rfl ?_
              refine S_unwanted rfl rfl hg18 rfl ?_
              refine S_unwanted rfl rfl hg18 rfl ?_
              refine S_v (r_pickF rfl hg18 rfl) rfl ?_
              refine S_pu 1 rfl ?_
              refine S_seqnil ?_
              refine W_false rfl ?_
              refine W_skip ?_
              refine At_block ?_
              refine At_cut () (.cons rfl (.cons rfl (.cons rfl (.cons rfl (Sub.nil _))))) ⟨hL11, by unfold M.exF; rw [if_neg (fun h => h (ch_eq hc)), if_neg (fun h => h h2), if_neg (fun h => h h3), if_neg (by omega), if_neg (by omega)]⟩
    · rintro _ wr10 ⟨hL10, hx0⟩
      obtain ⟨g1, g2, g3, gm1, gm2, gml, gS, g0⟩ := M.exF_ok hx0
      have gA := M.exl_good g1 g3 gS g0
      have gl : (M.exl l S).length = l.length + 1 := rfl
      have gk0 : ∀ i, i < (M.exl l S).length → 0 ≤ ((M.exl l S).getD i default).1 := fun i hi => (gA.k i hi).1
      have gn2 : (M.exl l S).length ≤ 100 := (by omega)
      have gn3 : (M.kps (M.exl l S)).length ≤ 100 := (by rw [M.kps_length]; omega)
      have h8 : ((l.length * S.length : Nat) : Int) = (m - 1) * (S.length : Int) := by rw [Int.natCast_mul, gml]
      have h9 : l.length * S.length ≤ 10 * 4096 := Nat.mul_le_mul g3 gS
      refine W_seqr ?_
      refine S_pu 1 rfl ?_
      refine S_v (r_build rfl (fun _ => bld32_1 _ hs.one _)) rfl ?_
      refine S_lit (sz := 2) rfl (fun _ => bsl23_1 _ _ _) rfl (by decide) rfl hL10 ?_
      intro v23 w23 hx23 hL23 hle23 hs23 ho23
      obtain ⟨hL23, hle23⟩ := row_new hL10 hx23 ho23
      refine S_pu 1 rfl ?_
      obtain ⟨news24, hn24, hs24⟩ := hl.elems
      refine S_append 0 rfl rfl Try.underlying23 zr32 rfl (by decide) rfl hL23 rfl (hs24.mono hL23.arg) hn24.one (by omega) ?_
      intro v24 w24 hL24 hle24
      have hv25 : Vec shr _ _ ((M.exl l S)) := hL24.vecD2 (i := 0) rfl (by simp [M.exl]; omega) (.cons ⟨_, _, rfl, rfl, _, rfl, hs.mono hL24.argFz⟩ (hn24.mono hL24.argFz))
      have hL25 := hL24.dropAt (i := 0) rfl
      refine S_pu 1 rfl ?_
      refine S_seqnil ?_
      refine W_seqr ?_
      refine S_pu 1 rfl ?_
      refine S_callL rfl rfl hL25 (keepers_ok _ (hv25.mono (fz_le _ _)) gk0 gn2) ?_
      intro v26 w26 hR26 hx26 _ _
      have hv26 := hR26.vec.mono (nw_fz hL25)
      have hL26 := hL25.call hx26
      have hle26 := fz_ext hL25 hx26
      replace hv25 := hv25.mono hle26
      refine S_pu 1 rfl ?_
      refine S_seqnil ?_
      refine W_seqr ?_
      refine S_pu 1 rfl ?_
      refine S_v (r_len rfl Try.underlying22 hs) rfl ?_
      refine S_pu 1 rfl ?_
      refine S_seqnil ?_
      refine W_seqr ?_
      refine S_pu 1 rfl ?_
      refine S_v (r_ar64 rfl rfl rfl (by omega)) rfl ?_
      refine S_pu 1 rfl ?_
      refine S_v (r_ar64 rfl rfl rfl (by omega)) rfl ?_
      refine S_make (m := (l.length * S.length)) rfl rfl ⟨h8.symm, h8.symm⟩ Try.underlying22 zr5 rfl rfl hL26 (by omega) ?_
      intro v27 w27 hx27 hL27 hle27
      replace hv25 := hv25.mono hle27
      replace hv26 := hv26.mono hle27
      refine S_pu 1 rfl ?_
      refine S_seqnil ?_
      refine W_seq ?_
      refine W_seqr ?_
      refine S_pu 1 rfl ?_
      refine S_v (r_len rfl Try.underlying23 hv25) rfl ?_
      refine S_pu 1 rfl ?_
      refine S_seqnil ?_
      refine W_block ?_
      have hL28 := hL27.dropAt (i := 1) rfl
      replace hv25 := hv25.mono (fz_dropAt (i := 1) rfl)
      replace hv26 := hv26.mono (fz_dropAt (i := 1) rfl)
      refine W_loop (σ := Nat) (fun i => [(73, .int .i64 (i : Int)), (7, .pointer (some ⟨b1, 0, none⟩)), (10, v26), (11, .int .i64 ((S).length : Int)), (12, v27), (71, v24), (72, .int .i64 (((M.exl l S)).length : Int))]) (fun i wr => Lcl w [.row v27 5 1 (l.length * S.length) ((M.e1 (List.replicate (l.length * S.length) 0) (M.exl l S) S.length i).map bv), .box b1 [.int .i64 0, .int .i64 0] 25] wr ∧ i ≤ (M.exl l S).length ∧ Vec shr (fz wr [.row v27 5 1 (l.length * S.length) ((M.e1 (List.replicate (l.length * S.length) 0) (M.exl l S) S.length i).map bv), .box b1 [.int .i64 0, .int .i64 0] 25]) v24 (M.exl l S) ∧ Vec .byte (fz wr [.row v27 5 1 (l.length * S.length) ((M.e1 (List.replicate (l.length * S.length) 0) (M.exl l S) S.length i).map bv), .box b1 [.int .i64 0, .int .i64 0] 25]) v26 (M.kps (M.exl l S))) (fun i => (M.exl l S).length - i) 0 (.cons rfl (.cons rfl (.cons rfl (.cons rfl (.cons rfl (.cons rfl (.cons rfl (Sub.nil _)))))))) ⟨(by have h := hL28; simp only [List.map_replicate, M.e1]; exact h), Nat.zero_le _, (by have h := hv25; simp only [List.map_replicate, M.e1]; exact h), (by have h := hv26; simp only [List.map_replicate, M.e1]; exact h)⟩ ?_
      rintro i wr29 ⟨hL29, hil, ha29, hp29⟩
      refine W_seqr ?_
      refine S_pu 1 rfl ?_
      refine S_seqnil ?_
      refine W_seq ?_
      refine W_if rfl (fun hc30 => ?_) (fun hc30 => ?_)
      · have hbl : (M.bss (M.kps (M.exl l S)) i).length = l.length + 1 := (by rw [M.bss_length (by rw [M.kps_length]; omega), M.kps_length]; rfl)
        have hcl : ((M.bss (M.kps (M.exl l S)) i).drop 1).length = l.length := (by rw [List.length_drop]; omega)
        have hdl : ((M.exl l S).getD i default).2.length = S.length := gA.d i (by omega)
        have hik : i < (M.kps (M.exl l S)).length := (by rw [M.kps_length]; omega)
        refine W_skip ?_
        refine At_seq ?_
        refine W_seq ?_
        refine W_block ?_
        refine W_seqr ?_
        refine S_pu 1 rfl ?_
        refine S_index rfl rfl Try.underlying23 zr32 ha29 i rfl (by omega) rfl ?_
        rintro p31 _ ⟨_, _, rfl, rfl, e31v, rfl, e31h⟩ hp31
        refine S_v (r_loadN rfl Try.underlying32 rfl zr32 hp31 (fz_le _ _)) rfl ?_
        refine S_alloc zr32 rfl rfl hL29 ?_
        intro w32 b32 hL32 hle32 _
        replace ha29 := ha29.mono hle32
        replace hp29 := hp29.mono hle32
        replace hp31 := hp31.mono hle32
        replace e31h := e31h.mono hle32
        refine S_pu 1 rfl ?_
        refine S_storeBN 0 rfl rfl rfl zr32 hL32 rfl rfl (onc rfl (onc e31h.one on0)) ?_
        intro w33 hL33 hle33
        replace ha29 := ha29.mono hle33
        replace hp29 := hp29.mono hle33
        replace hp31 := hp31.mono hle33
        replace e31h := e31h.mono hle33
        refine S_seqnil ?_
        refine W_seqr ?_
        refine S_pu 2 rfl ?_
        refine S_callL rfl rfl hL33 (basis_ok _ (hp29.mono (fz_le _ _)) hik gn3) ?_
        intro v34 w34 hR34 hx34 _ _
        have hv34 := hR34.vec.mono (nw_fz hL33)
        have hL34 := hL33.call hx34
        have hle34 := fz_ext hL33 hx34
        replace ha29 := ha29.mono hle34
        replace hp29 := hp29.mono hle34
        replace hp31 := hp31.mono hle34
        replace e31h := e31h.mono hle34
        refine S_slice rfl Try.underlying22 zr5 hv34 (1) ((M.bss (M.kps (M.exl l S)) i).length) ⟨_, rfl⟩ rfl (by omega) rfl ?_
        intro v35 hv35
        rw [List.take_of_length_le (by rw [List.length_drop]; exact Nat.le_refl _)] at hv35
        refine S_v (r_len rfl Try.underlying22 hv35) rfl ?_
        refine S_pu 1 rfl ?_
        refine S_seqnil ?_
        refine W_block ?_
        refine W_loop (σ := Nat) (fun j => [(83, .int .i64 (j : Int)), (7, .pointer (some ⟨b1, 0, none⟩)), (10, v26), (11, .int .i64 ((S).length : Int)), (12, v27), (14, .pointer (some ⟨b32, 0, none⟩)), (71, v24), (72, .int .i64 (((M.exl l S)).length : Int)), (73, .int .i64 (i : Int)), (81, v35), (82, .int .i64 ((((M.bss (M.kps (M.exl l S)) i).drop 1)).length : Int))]) (fun j wr => Lcl w [.box b32 [.int .i64 ((M.exl l S).getD i default).1, e31v] 32, .row v27 5 1 (l.length * S.length) ((M.e2 (M.e1 (List.replicate (l.length * S.length) 0) (M.exl l S) S.length i) ((M.bss (M.kps (M.exl l S)) i).drop 1) ((M.exl l S).getD i default).2 S.length j).map bv), .box b1 [.int .i64 0, .int .i64 0] 25] wr ∧ j ≤ ((M.bss (M.kps (M.exl l S)) i).drop 1).length ∧ Vec shr (fz wr [.box b32 [.int .i64 ((M.exl l S).getD i default).1, e31v] 32, .row v27 5 1 (l.length * S.length) ((M.e2 (M.e1 (List.replicate (l.length * S.length) 0) (M.exl l S) S.length i) ((M.bss (M.kps (M.exl l S)) i).drop 1) ((M.exl l S).getD i default).2 S.length j).map bv), .box b1 [.int .i64 0, .int .i64 0] 25]) v24 (M.exl l S) ∧ Vec .byte (fz wr [.box b32 [.int .i64 ((M.exl l S).getD i default).1, e31v] 32, .row v27 5 1 (l.length * S.length) ((M.e2 (M.e1 (List.replicate (l.length * S.length) 0) (M.exl l S) S.length i) ((M.bss (M.kps (M.exl l S)) i).drop 1) ((M.exl l S).getD i default).2 S.length j).map bv), .box b1 [.int .i64 0, .int .i64 0] 25]) v26 (M.kps (M.exl l S)) ∧ Vec .byte (fz wr [.box b32 [.int .i64 ((M.exl l S).getD i default).1, e31v] 32, .row v27 5 1 (l.length * S.length) ((M.e2 (M.e1 (List.replicate (l.length * S.length) 0) (M.exl l S) S.length i) ((M.bss (M.kps (M.exl l S)) i).drop 1) ((M.exl l S).getD i default).2 S.length j).map bv), .box b1 [.int .i64 0, .int .i64 0] 25]) v35 ((M.bss (M.kps (M.exl l S)) i).drop 1) ∧ Vec .byte (fz wr [.box b32 [.int .i64 ((M.exl l S).getD i default).1, e31v] 32, .row v27 5 1 (l.length * S.length) ((M.e2 (M.e1 (List.replicate (l.length * S.length) 0) (M.exl l S) S.length i) ((M.bss (M.kps (M.exl l S)) i).drop 1) ((M.exl l S).getD i default).2 S.length j).map bv), .box b1 [.int .i64 0, .int .i64 0] 25]) e31v ((M.exl l S).getD i default).2) (fun j => ((M.bss (M.kps (M.exl l S)) i).drop 1).length - j) 0 (.cons rfl (.cons rfl (.cons rfl (.cons rfl (.cons rfl (.cons rfl (.cons rfl (.cons rfl (.cons rfl (.cons rfl (.cons rfl (Sub.nil _)))))))))))) ⟨hL34, Nat.zero_le _, ha29, hp29, hv35, e31h⟩ ?_
        rintro j wr36 ⟨hL36, hjl, ha36, hp36, hq36, hd36⟩
        refine W_seqr ?_
        refine S_pu 1 rfl ?_
        refine S_seqnil ?_
        refine W_seq ?_
        refine W_if rfl (fun hc37 => ?_) (fun hc37 => ?_)
        · have hjn := Nat.mul_le_mul_right S.length (show j + 1 ≤ l.length by omega)
          rw [Nat.add_mul, Nat.one_mul] at hjn
          refine W_skip ?_
          refine At_seq ?_
          refine W_seq ?_
          refine W_block ?_
          refine W_seqr ?_
          refine S_pu 1 rfl ?_
          refine S_index rfl rfl Try.underlying22 zr5 hq36 j rfl (by omega) rfl ?_
          rintro p38 _ rfl hp38
          refine S_v (r_load1 rfl Try.underlying5 rfl hp38 (fz_le _ _)) rfl ?_
          refine S_pu 2 rfl ?_
          refine S_seqnil ?_
          refine W_seqr ?_
          refine S_v (r_field rfl Try.underlying32 rfl zr22 (by decide)) rfl ?_
          refine S_v (r_loadB1 0 rfl Try.underlying22 rfl hL36 rfl rfl) rfl ?_
          refine S_v (r_len rfl Try.underlying22 hd36) rfl ?_
          refine S_pu 1 rfl ?_
          refine S_seqnil ?_
          refine W_block ?_
          refine W_loop (σ := Nat) (fun k => [(91, .int .i64 (k : Int)), (7, .pointer (some ⟨b1, 0, none⟩)), (10, v26), (11, .int .i64 ((S).length : Int)), (12, v27), (14, .pointer (some ⟨b32, 0, none⟩)), (15, .int .i64 (j : Int)), (16, .int .u8 ((((M.bss (M.kps (M.exl l S)) i).drop 1).getD j default).toNat : Int)), (71, v24), (72, .int .i64 (((M.exl l S)).length : Int)), (73, .int .i64 (i : Int)), (81, v35), (82, .int .i64 ((((M.bss (M.kps (M.exl l S)) i).drop 1)).length : Int)), (83, .int .i64 (j : Int)), (89, e31v), (90, .int .i64 ((((M.exl l S).getD i default).2).length : Int))]) (fun k wr => Lcl w [.box b32 [.int .i64 ((M.exl l S).getD i default).1, e31v] 32, .row v27 5 1 (l.length * S.length) ((M.e3 (M.e2 (M.e1 (List.replicate (l.length * S.length) 0) (M.exl l S) S.length i) ((M.bss (M.kps (M.exl l S)) i).drop 1) ((M.exl l S).getD i default).2 S.length j) (((M.bss (M.kps (M.exl l S)) i).drop 1).getD j default) j S.length ((M.exl l S).getD i default).2 k).map bv), .box b1 [.int .i64 0, .int .i64 0] 25] wr ∧ k ≤ ((M.exl l S).getD i default).2.length ∧ Vec shr (fz wr [.box b32 [.int .i64 ((M.exl l S).getD i default).1, e31v] 32, .row v27 5 1 (l.length * S.length) ((M.e3 (M.e2 (M.e1 (List.replicate (l.length * S.length) 0) (M.exl l S) S.length i) ((M.bss (M.kps (M.exl l S)) i).drop 1) ((M.exl l S).getD i default).2 S.length j) (((M.bss (M.kps (M.exl l S)) i).drop 1).getD j default) j S.length ((M.exl l S).getD i default).2 k).map bv), .box b1 [.int .i64 0, .int .i64 0] 25]) v24 (M.exl l S) ∧ Vec .byte (fz wr [.box b32 [.int .i64 ((M.exl l S).getD i default).1, e31v] 32, .row v27 5 1 (l.length * S.length) ((M.e3 (M.e2 (M.e1 (List.replicate (l.length * S.length) 0) (M.exl l S) S.length i) ((M.bss (M.kps (M.exl l S)) i).drop 1) ((M.exl l S).getD i default).2 S.length j) (((M.bss (M.kps (M.exl l S)) i).drop 1).getD j default) j S.length ((M.exl l S).getD i default).2 k).map bv), .box b1 [.int .i64 0, .int .i64 0] 25]) v26 (M.kps (M.exl l S)) ∧ Vec .byte (fz wr [.box b32 [.int .i64 ((M.exl l S).getD i default).1, e31v] 32, .row v27 5 1 (l.length * S.length) ((M.e3 (M.e2 (M.e1 (List.replicate (l.length * S.length) 0) (M.exl l S) S.length i) ((M.bss (M.kps (M.exl l S)) i).drop 1) ((M.exl l S).getD i default).2 S.length j) (((M.bss (M.kps (M.exl l S)) i).drop 1).getD j default) j S.length ((M.exl l S).getD i default).2 k).map bv), .box b1 [.int .i64 0, .int .i64 0] 25]) v35 ((M.bss (M.kps (M.exl l S)) i).drop 1) ∧ Vec .byte (fz wr [.box b32 [.int .i64 ((M.exl l S).getD i default).1, e31v] 32, .row v27 5 1 (l.length * S.length) ((M.e3 (M.e2 (M.e1 (List.replicate (l.length * S.length) 0) (M.exl l S) S.length i) ((M.bss (M.kps (M.exl l S)) i).drop 1) ((M.exl l S).getD i default).2 S.length j) (((M.bss (M.kps (M.exl l S)) i).drop 1).getD j default) j S.length ((M.exl l S).getD i default).2 k).map bv), .box b1 [.int .i64 0, .int .i64 0] 25]) e31v ((M.exl l S).getD i default).2) (fun k => ((M.exl l S).getD i default).2.length - k) 0 (.cons rfl (.cons rfl (.cons rfl (.cons rfl (.cons rfl (.cons rfl (.cons rfl (.cons rfl (.cons rfl (.cons rfl (.cons rfl (.cons rfl (.cons rfl (.cons rfl (.cons rfl (.cons rfl (Sub.nil _))))))))))))))))) ⟨hL36, Nat.zero_le _, ha36, hp36, hq36, hd36⟩ ?_
          rintro k wr39 ⟨hL39, hkl, ha39, hp39, hq39, hd39⟩
          refine W_seqr ?_
          refine S_pu 1 rfl ?_
          refine S_seqnil ?_
          refine W_seq ?_
          refine W_if rfl (fun hc40 => ?_) (fun hc40 => ?_)
          · have hrl : (M.e3 (M.e2 (M.e1 (List.replicate (l.length * S.length) 0) (M.exl l S) S.length i) ((M.bss (M.kps (M.exl l S)) i).drop 1) ((M.exl l S).getD i default).2 S.length j) (((M.bss (M.kps (M.exl l S)) i).drop 1).getD j default) j S.length ((M.exl l S).getD i default).2 k).length = l.length * S.length := (by rw [M.e3_length, M.e2_length, M.e1_length, List.length_replicate])
            refine W_skip ?_
            refine At_seq ?_
            refine W_seq ?_
            refine W_block ?_
            refine W_seqr ?_
            refine S_pu 1 rfl ?_
            refine S_index rfl rfl Try.underlying22 zr5 hd39 k rfl (by omega) rfl ?_
            rintro p41 _ rfl hp41
            refine S_v (r_load1 rfl Try.underlying5 rfl hp41 (fz_le _ _)) rfl ?_
            refine S_pu 2 rfl ?_
            refine S_seqnil ?_
            refine W_regd (.q 0 (.q 1 (.q 2 (.q 3 (.q 4 (.q 5 (.q 6 (.q 7 (.q 8 (.q 9 (.q 10 (.q 11 (.q 12 (.q 13 (.q 14 (.q 15 (.q 16 (.q 17 (.q 18 (.tail 19)))))))))))))))))))) mixed (by kernel_rfl) (fun w42 hx42 => ?_)
            have hL43 := hL39.call hx42
            have hle43 := fz_ext hL39 hx42
            replace ha39 := ha39.mono hle43
            replace hp39 := hp39.mono hle43
            replace hq39 := hq39.mono hle43
            replace hd39 := hd39.mono hle43
            replace hp41 := hp41.mono hle43
            refine D_pu 3 rfl ?_
            refine D_v (r_ar64 rfl rfl rfl (by omega)) rfl rfl ?_
            refine D_pu 1 rfl ?_
            refine D_v (r_ar64 rfl rfl rfl (by omega)) rfl rfl ?_
            refine D_pu 3 rfl ?_
            refine D_v (r_ar64 rfl rfl rfl (by omega)) rfl rfl ?_
            refine D_pu 1 rfl ?_
            refine D_v (r_ar64 rfl rfl rfl (by omega)) rfl rfl ?_
            refine D_indexR 1 rfl rfl rfl Try.underlying22 zr5 hL43 rfl (j * S.length + k) (by omega) (by omega) rfl ?_
            intro p44 hp44
            refine D_v (r_loadR 1 rfl Try.underlying5 rfl hL43 rfl hp44 (bytes_get (getD_some (by omega)))) rfl rfl ?_
            refine D_pu 2 rfl ?_
            refine D_call rfl rfl rfl (fun w45 hx45 => mul_ok _ ) ?_
            refine D_call rfl rfl rfl (fun w46 hx46 => add_ok _ ) ?_
            refine D_indexR 1 rfl rfl rfl Try.underlying22 zr5 hL43 rfl (j * S.length + k) (by omega) (by omega) rfl ?_
            intro p47 hp47
            refine D_tail (fun w48 hx48 => ?_)
            have hL49 := hL43.call hx48
            have hle49 := fz_ext hL43 hx48
            replace ha39 := ha39.mono hle49
            replace hp39 := hp39.mono hle49
            replace hq39 := hq39.mono hle49
            replace hd39 := hd39.mono hle49
            replace hp41 := hp41.mono hle49
            refine S_storeR 1 rfl rfl rfl zr5 hL49 rfl hp47 (by rw [List.length_map]; omega) ?_
            intro w50 hL50 hle50
            replace ha39 := ha39.mono hle50
            replace hp39 := hp39.mono hle50
            replace hq39 := hq39.mono hle50
            replace hd39 := hd39.mono hle50
            replace hp41 := hp41.mono hle50
            refine S_nil ?_
            refine At_block ?_
            refine At_seq ?_
            refine W_region ?_
            refine S_v (r_ar64 rfl rfl rfl (by omega)) rfl ?_
            refine S_pu 1 rfl ?_
            refine S_nil ?_
            refine At_round (k + 1) (.int rfl (by omega) (.cons rfl (.cons rfl (.cons rfl (.cons rfl (.cons rfl (.cons rfl (.cons rfl (.cons rfl (.cons rfl (.cons rfl (.cons rfl (.cons rfl (.cons rfl (.cons rfl (.cons rfl (Sub.nil _))))))))))))))))) ⟨(by have h := hL50; simp only [M.e3]; rw [← bytes_set]; exact h), by omega, (by have h := ha39; simp only [M.e3]; rw [← bytes_set]; exact h), (by have h := hp39; simp only [M.e3]; rw [← bytes_set]; exact h), (by have h := hq39; simp only [M.e3]; rw [← bytes_set]; exact h), (by have h := hd39; simp only [M.e3]; rw [← bytes_set]; exact h)⟩ (by omega)
          · obtain rfl : k = ((M.exl l S).getD i default).2.length := (by omega)
            refine W_exit ?_
            refine At_seq_exit ?_
            refine At_loop_exit ?_
            refine At_exit ?_
            refine At_block ?_
            refine At_seq ?_
            refine W_region ?_
            refine S_v (r_ar64 rfl rfl rfl (by omega)) rfl ?_
            refine S_pu 1 rfl ?_
            refine S_nil ?_
            refine At_round (j + 1) (.int rfl (by omega) (.cons rfl (.cons rfl (.cons rfl (.cons rfl (.cons rfl (.cons rfl (.cons rfl (.cons rfl (.cons rfl (.cons rfl (Sub.nil _)))))))))))) ⟨hL39, by omega, ha39, hp39, hq39, hd39⟩ (by omega)
        · obtain rfl : j = (M.bss (M.kps (M.exl l S)) i).length - 1 := (by rw [List.length_drop] at *; omega)
          refine W_exit ?_
          refine At_seq_exit ?_
          refine At_loop_exit ?_
          refine At_exit ?_
          refine At_block ?_
          refine At_seq ?_
          refine W_region ?_
          refine S_v (r_ar64 rfl rfl rfl (by omega)) rfl ?_
          refine S_pu 1 rfl ?_
          refine S_nil ?_
          have hL51 := hL36.dropAt (i := 0) rfl
          replace ha36 := ha36.mono (fz_dropAt (i := 0) rfl)
          replace hp36 := hp36.mono (fz_dropAt (i := 0) rfl)
          replace hq36 := hq36.mono (fz_dropAt (i := 0) rfl)
          replace hd36 := hd36.mono (fz_dropAt (i := 0) rfl)
          refine At_round (i + 1) (.int rfl (by omega) (.cons rfl (.cons rfl (.cons rfl (.cons rfl (.cons rfl (.cons rfl (Sub.nil _)))))))) ⟨hL51, by omega, ha36, hp36⟩ (by omega)
      · refine W_exit ?_
        refine At_seq_exit ?_
        refine At_loop_exit ?_
        refine At_exit ?_
        refine At_seq ?_
        refine W_seqr ?_
        refine S_pu 1 rfl ?_
        refine S_v (r_build rfl (fun _ => bld25_z _)) rfl ?_
        refine S_pu 1 rfl ?_
        refine S_storeBN 1 rfl rfl rfl zr25 hL29 rfl rfl (onc rfl (onc rfl on0)) ?_
        intro w52 hL52 hle52
        replace ha29 := ha29.mono hle52
        replace hp29 := hp29.mono hle52
        refine S_seqnil ?_
        refine W_ret ?_
        refine At_got2 rfl (.tmp rfl) (.cell rfl Try.underlying25 rfl zr25 (box_ptr (i := 1) hL52 rfl)) ?_
        obtain rfl : i = (M.exl l S).length := (by omega)
        exact ⟨hL52.ext, _, by rw [hx0]; rfl, by rw [M.exA, if_pos hx0]; exact hL52.own' (i := 0) (l := M.exR l S) (by rw [M.exR_length]; rfl) (elems_bytes _ _)⟩
end Go.Proofs.Ytidedcbaahiplaa
