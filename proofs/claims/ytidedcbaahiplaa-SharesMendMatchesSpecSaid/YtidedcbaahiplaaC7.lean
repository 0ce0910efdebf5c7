/- Contracts: digits, numbers, the choice of shares. -/
import Derived.Test.YtidedcbaahiplaaC6
import Derived.Test.YtidedcbaahiplaaEngI
import Derived.Test.YtidedcbaahiplaaSpecC
import Derived.KernelRfl
namespace Go.Proofs.Ytidedcbaahiplaa
open Go Go.E Go.RowKit
set_option maxRecDepth 10000 in
theorem digits_ok (w : World) {b c : Nat} (hb : b ≤ 9223372036854775807) (hc : c ≤ 1000) :
    Ok Try.prog 28 [.int .i64 (b : Int), .int .i64 (c : Int)] w (fun v w' => Ext w w' ∧ Own 3 (.int .i64) w w' v (M.dgs b c)) := by
  refine Ok_enter (n := 23) [(0, .int .i64 (b : Int)), (1, .int .i64 (c : Int))] Try.func28 rfl rfl rfl rfl rfl ?_
  have hL := Lcl.start w
  refine W_seqr ?_
  refine S_pu 1 rfl ?_
  refine S_seqnil ?_
  refine W_seqr ?_
  refine S_pu 1 rfl ?_
  refine S_make (m := c) rfl rfl ⟨rfl, rfl⟩ Try.underlying43 zr3 rfl rfl hL (by omega) ?_
  intro v1 w1 hx1 hL1 hle1
  refine S_pu 1 rfl ?_
  refine S_seqnil ?_
  refine W_seq ?_
  refine W_seqr ?_
  refine S_pu 1 rfl ?_
  refine S_v (r_ar64 rfl rfl rfl (by omega)) rfl ?_
  refine S_pu 1 rfl ?_
  refine S_seqnil ?_
  refine W_block ?_
  refine W_loop (σ := Nat) (fun k => [(0, .int .i64 ((b / 2 ^ k : Nat) : Int)), (6, .int .i64 ((c : Int) - 1 - (k : Int))), (4, .slice none 0 0), (5, v1)]) (fun k wr => Lcl w [.row v1 3 1 c ((M.dgP b c k).map iv)] wr ∧ k ≤ c) (fun k => c - k) 0 (.int rfl (by simp) (.int rfl (by omega) (.cons rfl (.cons rfl (Sub.nil _))))) ⟨(by have h := hL1; rw [M.dgP, List.map_replicate]; exact h), Nat.zero_le _⟩ ?_
  rintro k wr2 ⟨hL2, hkl⟩
  refine W_seq ?_
  refine W_seqr ?_
  refine S_pu 2 rfl ?_
  refine S_seqnil ?_
  refine W_if rfl (fun hc3 => ?_) (fun hc3 => ?_)
  · have hdl := M.dgP_length b c k
    have hbk : b / 2 ^ k ≤ b := Nat.div_le_self _ _
    have hbz : (0 : Int) ≤ ((b / 2 ^ k : Nat) : Int) := Int.natCast_nonneg _
    refine W_skip ?_
    refine At_seq ?_
    refine W_seq ?_
    refine W_block ?_
    refine W_seqr ?_
    refine S_pu 3 rfl ?_
    refine S_v (r_rem rfl rfl (by omega)) rfl ?_
    refine S_indexR 0 rfl rfl Try.underlying43 zr3 hL2 rfl (c - 1 - k) (by omega) (by omega) rfl ?_
    intro p4 hp4
    refine S_storeR 0 rfl rfl rfl zr3 hL2 rfl hp4 (by rw [List.length_map]; omega) ?_
    intro w5 hL5 hle5
    refine S_seqnil ?_
    refine W_region ?_
    refine S_pu 1 rfl ?_
    refine S_v (r_quo rfl rfl (by omega)) rfl ?_
    refine S_pu 1 rfl ?_
    refine S_nil ?_
    refine At_block ?_
    refine At_seq ?_
    refine W_region ?_
    refine S_pu 1 rfl ?_
    refine S_v (r_ar64 rfl rfl rfl (by omega)) rfl ?_
    refine S_pu 1 rfl ?_
    refine S_nil ?_
    refine At_round (k + 1) (.int rfl (by rw [Nat.pow_succ, ← Nat.div_div_eq_div_mul]; omega) (.int rfl (by omega) (.cons rfl (.cons rfl (Sub.nil _))))) ⟨(by have h := hL5; rw [M.dgP, ← ints_set]; exact h), by omega⟩ (by omega)
  · refine W_exit ?_
    refine At_seq_exit ?_
    refine At_loop_exit ?_
    refine At_exit ?_
    refine At_seq ?_
    refine W_seqr ?_
    refine S_pu 2 rfl ?_
    refine S_seqnil ?_
    refine W_ret ?_
    refine At_body rfl rfl ?_
    obtain rfl : k = c := (by omega)
    exact ⟨hL2.ext, hL2.own' (i := 0) (l := M.dgs b k) (by rw [M.dgs, M.dgP_length]; rfl) (elems_ints _ _)⟩

set_option maxRecDepth 10000 in
theorem number_ok (w : World) {lv : Value} {l : List Int} (hl : Vec (.int .i64) (hp w) lv l) (hb : ∀ x ∈ l, x = 0 ∨ x = 1) (hn : l.length ≤ 60) :
    Ok Try.prog 27 [lv] w (fun v w' => Ext w w' ∧ v = .int .i64 (((M.nmF l l.length).toNat : Nat) : Int)) := by
  refine Ok_enter (n := 19) [(0, lv)] Try.func27 rfl rfl rfl rfl rfl ?_
  have hL := Lcl.start w
  refine W_seqr ?_
  refine S_pu 1 rfl ?_
  refine S_seqnil ?_
  refine W_seqr ?_
  refine S_pu 1 rfl ?_
  refine S_seqnil ?_
  refine W_seq ?_
  refine W_seqr ?_
  refine S_pu 1 rfl ?_
  refine S_seqnil ?_
  refine W_block ?_
  refine W_loop (σ := Nat) (fun k => [(3, .int .i64 (M.nmF l k)), (4, .int .i64 (k : Int)), (0, lv), (2, .int .i64 0)]) (fun k wr => Lcl w [] wr ∧ k ≤ l.length) (fun k => l.length - k) 0 (.int rfl rfl (.int rfl rfl (.cons rfl (.cons rfl (Sub.nil _))))) ⟨hL, Nat.zero_le _⟩ ?_
  rintro k wr1 ⟨hL1, hkl⟩
  refine W_seq ?_
  refine W_seqr ?_
  refine S_pu 2 rfl ?_
  refine S_v (r_len rfl Try.underlying43 hl) rfl ?_
  refine S_pu 1 rfl ?_
  refine S_seqnil ?_
  refine W_if rfl (fun hc2 => ?_) (fun hc2 => ?_)
  · have hnk := M.nmF_lt hb (show k ≤ l.length by omega) (by omega)
    have hbk := hb (l.getD k default) (by have hk1 : k < l.length := (by omega)
                                          simp [hk1])
    refine W_skip ?_
    refine At_seq ?_
    refine W_seq ?_
    refine W_block ?_
    refine W_region ?_
    refine S_pu 1 rfl ?_
    refine S_v (r_ar64 rfl rfl rfl (by omega)) rfl ?_
    refine S_pu 2 rfl ?_
    refine S_index rfl rfl Try.underlying43 zr3 hl k rfl (by omega) rfl ?_
    rintro p3 _ rfl hp3
    refine S_v (r_load1 rfl Try.underlying3 rfl hp3 hL1.arg) rfl ?_
    refine S_v (r_ar64 rfl rfl rfl (by omega)) rfl ?_
    refine S_pu 1 rfl ?_
    refine S_nil ?_
    refine At_block ?_
    refine At_seq ?_
    refine W_region ?_
    refine S_pu 1 rfl ?_
    refine S_v (r_ar64 rfl rfl rfl (by omega)) rfl ?_
    refine S_pu 1 rfl ?_
    refine S_nil ?_
    refine At_round (k + 1) (.int rfl rfl (.int rfl (by omega) (.cons rfl (.cons rfl (Sub.nil _))))) ⟨hL1, by omega⟩ (by omega)
  · refine W_exit ?_
    refine At_seq_exit ?_
    refine At_loop_exit ?_
    refine At_exit ?_
    refine At_seq ?_
    refine W_seqr ?_
    refine S_pu 2 rfl ?_
    refine S_seqnil ?_
    refine W_ret ?_
    refine At_body rfl rfl ?_
    obtain rfl : k = l.length := (by omega)
    exact ⟨hL1.ext, by rw [Int.toNat_of_nonneg (M.nmF_le hb _ (Nat.le_refl _)).1]⟩

set_option maxRecDepth 10000 in
theorem chosen_ok (w : World) {H : PH} {lv : Value} {l : List M.Sh} {b : Nat} (hH : Le H (hp w)) (hl : Vec shr H lv l) (hn : l.length ≤ 100) (hb : b ≤ 9223372036854775807) :
    Ok Try.prog 26 [lv, .int .i64 (b : Int)] w (fun v w' => Ext w w' ∧ Vec shr (un H (nw w w')) v (M.chs l b l.length)) := by
  refine Ok_enter (n := 26) [(0, lv), (1, .int .i64 (b : Int))] Try.func26 rfl rfl rfl rfl rfl ?_
  have hL := Lcl.start w
  refine W_seqr ?_
  refine S_pu 1 rfl ?_
  refine S_seqnil ?_
  refine W_seqr ?_
  refine S_pu 1 rfl ?_
  refine S_seqnil ?_
  refine W_seq ?_
  refine W_seqr ?_
  refine S_pu 1 rfl ?_
  refine S_seqnil ?_
  refine W_block ?_
  refine W_loop (σ := Nat × Value × List Value) (fun (⟨i, ov, xs⟩ : Nat × Value × List Value) => [(5, ov), (6, .int .i64 (i : Int)), (1, .int .i64 ((b / 2 ^ i : Nat) : Int)), (0, lv), (4, .slice none 0 0)]) (fun (⟨i, ov, xs⟩ : Nat × Value × List Value) wr => Lcl w [.row ov 32 2 (M.chs l b i).length xs] wr ∧ i ≤ l.length ∧ Elems shr H (M.chs l b i) xs) (fun (⟨i, ov, xs⟩ : Nat × Value × List Value) => l.length - i) (0, .slice none 0 0, []) (.cons rfl (.int rfl rfl (.int rfl (by simp) (.cons rfl (.cons rfl (Sub.nil _)))))) ⟨(row_nil hL 32 2).1, Nat.zero_le _, .nil⟩ ?_
  rintro ⟨i, ov, xs⟩ wr1 ⟨hL1, hil, he⟩
  refine W_seq ?_
  refine W_seqr ?_
  refine S_pu 2 rfl ?_
  refine S_v (r_len rfl Try.underlying23 hl) rfl ?_
  refine S_pu 1 rfl ?_
  refine S_seqnil ?_
  refine W_if rfl (fun hc2 => ?_) (fun hc2 => ?_)
  · have hbk : b / 2 ^ i ≤ b := Nat.div_le_self _ _
    have hbz : (0 : Int) ≤ ((b / 2 ^ i : Nat) : Int) := Int.natCast_nonneg _
    have hcl := M.chs_length_le l b i
    refine W_skip ?_
    refine At_seq ?_
    refine W_seq ?_
    refine W_block ?_
    refine W_seq ?_
    refine W_seqr ?_
    refine S_pu 1 rfl ?_
    refine S_v (r_rem rfl rfl (by omega)) rfl ?_
    refine S_pu 1 rfl ?_
    refine S_seqnil ?_
    refine W_if rfl (fun hbit0 => ?_) (fun hbit0 => ?_)
    · have hbit : b / 2 ^ i % 2 = 1 := (by omega)
      refine W_region ?_
      refine S_pu 3 rfl ?_
      refine S_index rfl rfl Try.underlying23 zr32 hl i rfl (by omega) rfl ?_
      rintro p3 _ ⟨_, _, rfl, rfl, e3v, rfl, e3h⟩ hp3
      refine S_v (r_loadN rfl Try.underlying32 rfl zr32 hp3 (hH.trans hL1.arg)) rfl ?_
      refine S_lit (sz := 2) rfl (fun _ => bsl23_1 _ _ _) rfl (by decide) rfl hL1 ?_
      intro v4 w4 hx4 hL4 hle4 hs4 ho4
      replace hs4 := hs4.mono (nw_fz hL1)
      refine S_append 0 rfl rfl Try.underlying23 zr32 rfl (by decide) rfl hL4 rfl (hs4.mono (fz_le _ _)) (onc rfl (onc e3h.one on0)) (by omega) ?_
      intro v5 w5 hL5 hle5
      replace hs4 := hs4.mono hle5
      refine S_pu 1 rfl ?_
      refine S_nil ?_
      refine At_seq ?_
      refine W_region ?_
      refine S_pu 1 rfl ?_
      refine S_v (r_quo rfl rfl (by omega)) rfl ?_
      refine S_pu 1 rfl ?_
      refine S_nil ?_
      refine At_block ?_
      refine At_seq ?_
      refine W_region ?_
      refine S_pu 1 rfl ?_
      refine S_v (r_ar64 rfl rfl rfl (by omega)) rfl ?_
      refine S_pu 1 rfl ?_
      refine S_nil ?_
      refine At_round (i + 1, v5, _) (.cons rfl (.int rfl (by omega) (.int rfl (by rw [Nat.pow_succ, ← Nat.div_div_eq_div_mul]; omega) (.cons rfl (.cons rfl (Sub.nil _)))))) ⟨(by have h := hL5; rw [M.chs, if_pos hbit, List.length_append]; exact h), by omega, (by rw [M.chs, if_pos hbit]; exact he.append (.single ⟨_, _, rfl, rfl, _, rfl, e3h⟩))⟩ (by show l.length - (i + 1) < l.length - i; omega)
    · have hbit : ¬ b / 2 ^ i % 2 = 1 := (by omega)
      refine W_skip ?_
      refine At_seq ?_
      refine W_region ?_
      refine S_pu 1 rfl ?_
      refine S_v (r_quo rfl rfl (by omega)) rfl ?_
      refine S_pu 1 rfl ?_
      refine S_nil ?_
      refine At_block ?_
      refine At_seq ?_
      refine W_region ?_
      refine S_pu 1 rfl ?_
      refine S_v (r_ar64 rfl rfl rfl (by omega)) rfl ?_
      refine S_pu 1 rfl ?_
      refine S_nil ?_
      refine At_round (i + 1, ov, xs) (.cons rfl (.int rfl (by omega) (.int rfl (by rw [Nat.pow_succ, ← Nat.div_div_eq_div_mul]; omega) (.cons rfl (.cons rfl (Sub.nil _)))))) ⟨(by have h := hL1; rw [M.chs, if_neg hbit, List.append_nil]; exact h), by omega, (by rw [M.chs, if_neg hbit, List.append_nil]; exact he)⟩ (by show l.length - (i + 1) < l.length - i; omega)
  · refine W_exit ?_
    refine At_seq_exit ?_
    refine At_loop_exit ?_
    refine At_exit ?_
    refine At_seq ?_
    refine W_seqr ?_
    refine S_pu 2 rfl ?_
    refine S_seqnil ?_
    refine W_ret ?_
    refine At_body rfl rfl ?_
    obtain rfl : i = l.length := (by omega)
    exact ⟨hL1.ext, hL1.vecU (i := 0) hH rfl rfl he⟩
end Go.Proofs.Ytidedcbaahiplaa
